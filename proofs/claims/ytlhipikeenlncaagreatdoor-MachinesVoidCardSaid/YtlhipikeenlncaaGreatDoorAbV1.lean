/-
  'nestboxlaw35.MachinesVoid', by the abstract evaluator: what it answers at whatever input.
-/
import Derived.Test.YtlhipikeenlncaaGreatDoorAbEnv
import Derived.Test.YtlhipikeenlncaaGreatDoorProg
import Derived.KernelRfl
namespace Go.Proofs.YtlhipikeenlncaaGreatDoor
open Go Go.Ab
set_option maxRecDepth 100000

def exts : List (Nat × Extn) := [(106, .atomicLoad), (107, .atomicCAS), (108, .atomicStore), (225, .atomicAdd), (293, .atomicSwap), (332, .count), (353, .indexByte)]
noncomputable def EE : Env := envOf Tryz.prog exts

def seqL : Code → Code
  | .seq a _ => a
  | c => c
def seqR : Code → Code
  | .seq _ b => b
  | c => c
def condL : Code → Code
  | .cond _ a _ => a
  | c => c
def bodyOf (f : Func) : Code := f.body.getD .skip

/-- The frame behind the first two regions. -/
def frG (x i s v15 v16 : Value) : Fr :=
  lset (lset (lset (lset (lset (lset ([x, i] ++ undefs 81) 2 (.pointer (some ⟨1000, 0, none⟩))) 4 (.bool false)) 13 (.pointer (some ⟨1000, 2, none⟩))) 14 s) 15 v15) 16 v16

def hp0 : Heap := { next := 1000, tr := .nil, base := 8 }
def hp1 (k c s : Value) : Heap := hp0.push (.cells [k, c, s] false)

noncomputable def rest : Code := seqR (seqR (bodyOf Tryz.f3))
noncomputable def mid : Code := seqL (seqR (bodyOf Tryz.f3))

theorem body_eq : Tryz.f3.body = some (.seq (seqL (bodyOf Tryz.f3)) (.seq (.seq (seqL mid) (.cond (.tmp 16) (condL (seqR mid)) .skip)) rest)) := by kernel_rfl

theorem fn3 : EE.fn 3 = some Tryz.f3 := by kernel_rfl

/-- The law's result is true. -/
def goodRes : Res → Bool
  | some (.ret, fr, _) => isBool (lget fr 4) true
  | _ => false
noncomputable def evAt (c : Code) (fr : Fr) (h : Heap) : Res := evCode EE (callAt EE 999) (evYield (run EE 999)) (run EE 999) 999 c fr h

variable (k c s i : Value)
theorem start (cf : FuncId → List Value → Heap → Ans) (yl : Nat → List Value → Heap → Ans) (run : Code → Fr → Heap → Res) (n : Nat) :
    evCode EE cf yl run n (seqL (bodyOf Tryz.f3)) ([.agg #[k, c, s], i] ++ undefs (Tryz.f3.ntmps - 2)) hp0 = some (.normal, lset (lset ([.agg #[k, c, s], i] ++ undefs 81) 2 (.pointer (some ⟨1000, 0, none⟩))) 4 (.bool false), hp1 k c s) := by kernel_rfl

theorem first_nil (cf : FuncId → List Value → Heap → Ans) (yl : Nat → List Value → Heap → Ans) (run : Code → Fr → Heap → Res) (n : Nat) :
    evCode EE cf yl run n (seqL mid) (lset (lset ([.agg #[k, c, .slice none 0 0], i] ++ undefs 81) 2 (.pointer (some ⟨1000, 0, none⟩))) 4 (.bool false)) (hp1 k c (.slice none 0 0)) =
      some (.normal, frG (.agg #[k, c, .slice none 0 0]) i (.slice none 0 0) (.int .i64 0) (.bool false), hp1 k c (.slice none 0 0)) := by kernel_rfl

theorem first_some (a : Addr) (len cap : Nat) (cf : FuncId → List Value → Heap → Ans) (yl : Nat → List Value → Heap → Ans) (run : Code → Fr → Heap → Res) (n : Nat) :
    evCode EE cf yl run n (seqL mid) (lset (lset ([.agg #[k, c, .slice (some a) len cap], i] ++ undefs 81) 2 (.pointer (some ⟨1000, 0, none⟩))) 4 (.bool false)) (hp1 k c (.slice (some a) len cap)) =
      some (.normal, frG (.agg #[k, c, .slice (some a) len cap]) i (.slice (some a) len cap) (.int .i64 len) (.bool ((len : Int) > 3000)), hp1 k c (.slice (some a) len cap)) := by kernel_rfl

end Go.Proofs.YtlhipikeenlncaaGreatDoor
