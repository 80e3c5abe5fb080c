/-
  The abstract evaluator: how an abstract heap lies in a world of the model.
-/
import Derived.Test.YtjbhfehboajpcaaGreatDoorAbDefs
import Derived.RangeFuncLeaves
import Derived.OrdersIn
import Derived.Laws.World
namespace Go.Ab
open Go

/-! ### The store by number -/
theorem nbeq (a b : Nat) : Nat.beq a b = decide (a = b) := by
  rw [Bool.eq_iff_iff]; simp

namespace Tr
variable {α : Type}
theorem get_setF_same (x : α) : ∀ (f : Nat) (t : Tr α) (n : Nat), n < f → (setF f t n x).get n = some x := by
  intro f
  induction f with
  | zero => intro t n h; omega
  | succ f ih =>
    intro t n h
    by_cases h0 : n = 0
    · subst h0; cases t <;> simp [setF, get, nbeq]
    · by_cases h1 : n % 2 = 1
      · have := ih
        cases t with
        | nil => simp [setF, get, nbeq, h0, h1, ih .nil (n / 2) (by omega)]
        | node v l r => simp [setF, get, nbeq, h0, h1, ih l (n / 2) (by omega)]
      · cases t with
        | nil => simp [setF, get, nbeq, h0, h1, ih .nil (n / 2 - 1) (by omega)]
        | node v l r => simp [setF, get, nbeq, h0, h1, ih r (n / 2 - 1) (by omega)]

theorem get_setF_ne (x : α) : ∀ (f : Nat) (t : Tr α) (n m : Nat), m ≠ n → (setF f t n x).get m = t.get m := by
  intro f
  induction f with
  | zero => intro t n m _; rfl
  | succ f ih =>
    intro t n m h
    by_cases h0 : n = 0
    · subst h0
      cases t with
      | nil => by_cases m2 : m % 2 = 1 <;> simp [setF, get, nbeq, h, m2]
      | node v l r => simp [setF, get, nbeq, h]
    · by_cases h1 : n % 2 = 1
      · by_cases m0 : m = 0
        · subst m0; cases t <;> simp [setF, get, nbeq, h0, h1]
        · by_cases m1 : m % 2 = 1
          · have hne : m / 2 ≠ n / 2 := by omega
            cases t with
            | nil => simp [setF, get, nbeq, h0, h1, m0, m1, ih .nil _ _ hne]
            | node v l r => simp [setF, get, nbeq, h0, h1, m0, m1, ih l _ _ hne]
          · cases t <;> simp [setF, get, nbeq, h0, h1, m0, m1]
      · by_cases m0 : m = 0
        · subst m0; cases t <;> simp [setF, get, nbeq, h0, h1]
        · by_cases m1 : m % 2 = 1
          · cases t <;> simp [setF, get, nbeq, h0, h1, m0, m1]
          · have hne : m / 2 - 1 ≠ n / 2 - 1 := by omega
            cases t with
            | nil => simp [setF, get, nbeq, h0, h1, m0, m1, ih .nil _ _ hne]
            | node v l r => simp [setF, get, nbeq, h0, h1, m0, m1, ih r _ _ hne]

theorem get_set (t : Tr α) (n m : Nat) (x : α) : (t.set n x).get m = if m = n then some x else t.get m := by
  by_cases h : m = n
  · subst h; rw [if_pos rfl]; exact get_setF_same x _ _ _ (by omega)
  · rw [if_neg h]; exact get_setF_ne x _ _ _ _ h
end Tr

theorem Heap.get_set (h : Heap) (n m : Nat) (x : Blk) : (h.set n x).get m = if m = n then some x else h.get m := Tr.get_set _ _ _ _
theorem Heap.get_push (h : Heap) (m : Nat) (x : Blk) : (h.push x).get m = if m = h.next then some x else h.get m := Tr.get_set _ _ _ _
@[simp] theorem Heap.next_set (h : Heap) (n : Nat) (x : Blk) : (h.set n x).next = h.next := rfl
@[simp] theorem Heap.next_push (h : Heap) (x : Blk) : (h.push x).next = h.next + 1 := rfl

/-! ### Values -/
abbrev Inj := Nat → Option Loc

inductive VRel (ρ : Inj) : Value → Value → Prop
  | bool (b : Bool) : VRel ρ (.bool b) (.bool b)
  | int (k : IntKind) (n : Int) : VRel ρ (.int k n) (.int k n)
  | string (s : ByteArray) : VRel ρ (.string s) (.string s)
  | nilPtr : VRel ρ (.pointer none) (.pointer none)
  | ptr {b o : Nat} {l : Loc} (h : ρ b = some l) : VRel ρ (.pointer (some ⟨b, o, none⟩)) (.pointer (some ⟨l.block, l.shift + o, none⟩))
  | lost {a : Option Addr} : VRel ρ (.chan none) (.pointer a)
  | nilSlice : VRel ρ (.slice none 0 0) (.slice none 0 0)
  | slice {b o : Nat} {l : Loc} {n c : Nat} (h : ρ b = some l) (hc : c < fuzz) : VRel ρ (.slice (some ⟨b, o, none⟩) n c) (.slice (some ⟨l.block, l.shift + o, none⟩) n c)
  | fuzzy {b o : Nat} {l : Loc} {n es c : Nat} (h : ρ b = some l) (hn : n ≤ c) (hc : o + c * es ≤ l.ecap) : VRel ρ (.slice (some ⟨b, o, none⟩) n (fuzz + es)) (.slice (some ⟨l.block, l.shift + o, none⟩) n c)
  | fuzzyEnd {a a' : Addr} {es : Nat} : VRel ρ (.slice (some a) 0 (fuzz + es)) (.slice (some a') 0 0)
  | emptyEnd {a a' : Addr} : VRel ρ (.slice (some a) 0 0) (.slice (some a') 0 0)
  | nilMap : VRel ρ (.map none) (.map none)
  | map {b : Nat} {l : Loc} (h : ρ b = some l) (h0 : l.shift = 0) : VRel ρ (.map (some b)) (.map (some l.block))
  | nilFunc : VRel ρ .nilFunc .nilFunc
  | func {f : Fn} {a b a' b' : Array Value} (hf : ∀ l, f ≠ .yield l) (ha : a.size = a'.size) (hb : b.size = b'.size)
      (ea : ∀ (i : Nat) (x y : Value), a[i]? = some x → a'[i]? = some y → VRel ρ x y) (eb : ∀ (i : Nat) (x y : Value), b[i]? = some x → b'[i]? = some y → VRel ρ x y) : VRel ρ (.func f a b) (.func f a' b')
  | yield {b : Nat} {l : Loc} (h : ρ b = some l) (h0 : l.shift = 0) : VRel ρ (.func (.yield b) #[] #[]) (.func (.yield l.block) #[] #[])
  | nilIface : VRel ρ .nilIface .nilIface
  | iface {t : TypeId} {v v' : Value} (h : VRel ρ v v') : VRel ρ (.iface t v) (.iface t v')
  | agg {a a' : Array Value} (ha : a.size = a'.size) (ea : ∀ (i : Nat) (x y : Value), a[i]? = some x → a'[i]? = some y → VRel ρ x y) : VRel ρ (.agg a) (.agg a')
  | tuple {a a' : Array Value} (ha : a.size = a'.size) (ea : ∀ (i : Nat) (x y : Value), a[i]? = some x → a'[i]? = some y → VRel ρ x y) : VRel ρ (.tuple a) (.tuple a')

def Inj.le (ρ ρ' : Inj) : Prop := ∀ b l, ρ b = some l → ρ' b = some l
theorem Inj.le_refl (ρ : Inj) : ρ.le ρ := fun _ _ h => h
theorem Inj.le_trans {a b c : Inj} (h : a.le b) (h' : b.le c) : a.le c := fun x l e => h' x l (h x l e)

theorem VRel.mono {ρ ρ' : Inj} (hle : ρ.le ρ') {v v' : Value} (h : VRel ρ v v') : VRel ρ' v v' := by
  induction h with
  | bool b => exact .bool b
  | int k n => exact .int k n
  | string s => exact .string s
  | nilPtr => exact .nilPtr
  | ptr h => exact .ptr (hle _ _ h)
  | lost => exact .lost
  | nilSlice => exact .nilSlice
  | slice h hc => exact .slice (hle _ _ h) hc
  | fuzzy h hn hc => exact .fuzzy (hle _ _ h) hn hc
  | fuzzyEnd => exact .fuzzyEnd
  | emptyEnd => exact .emptyEnd
  | nilMap => exact .nilMap
  | map h h0 => exact .map (hle _ _ h) h0
  | nilFunc => exact .nilFunc
  | func hf ha hb _ _ ia ib => exact .func hf ha hb ia ib
  | yield h h0 => exact .yield (hle _ _ h) h0
  | nilIface => exact .nilIface
  | iface _ ih => exact .iface ih
  | agg ha _ ia => exact .agg ha ia
  | tuple ha _ ia => exact .tuple ha ia

/-- Lists of values. -/
def VRels (ρ : Inj) (l l' : List Value) : Prop := l.length = l'.length ∧ ∀ (i : Nat) (x y : Value), l[i]? = some x → l'[i]? = some y → VRel ρ x y

namespace VRels
variable {ρ : Inj}
theorem mono {ρ' : Inj} (hle : ρ.le ρ') {l l' : List Value} (h : VRels ρ l l') : VRels ρ' l l' := ⟨h.1, fun i x y a b => (h.2 i x y a b).mono hle⟩
theorem nil : VRels ρ [] [] := ⟨rfl, fun i x y h => by simp at h⟩
theorem cons {x y : Value} {l l' : List Value} (h : VRel ρ x y) (hl : VRels ρ l l') : VRels ρ (x :: l) (y :: l') :=
  ⟨by simp [hl.1], fun i a b ha hb => by
    cases i with
    | zero => simp at ha hb; subst ha hb; exact h
    | succ i => exact hl.2 i a b (by simpa using ha) (by simpa using hb)⟩
theorem cons_inv {x : Value} {l l' : List Value} (h : VRels ρ (x :: l) l') : ∃ y r, l' = y :: r ∧ VRel ρ x y ∧ VRels ρ l r := by
  cases l' with
  | nil => exact absurd h.1 (by simp)
  | cons y r => exact ⟨y, r, rfl, h.2 0 x y rfl rfl, by simpa using h.1, fun i a b ha hb => h.2 (i + 1) a b (by simpa using ha) (by simpa using hb)⟩
theorem nil_inv {l' : List Value} (h : VRels ρ [] l') : l' = [] := by
  cases l' with
  | nil => rfl
  | cons y r => exact absurd h.1 (by simp)
theorem append {a b a' b' : List Value} (h : VRels ρ a a') (h' : VRels ρ b b') : VRels ρ (a ++ b) (a' ++ b') := by
  induction a generalizing a' with
  | nil => rw [h.nil_inv]; simpa using h'
  | cons x a ih => obtain ⟨y, r, rfl, hx, hr⟩ := h.cons_inv; exact .cons hx (ih hr)
theorem get {l l' : List Value} (h : VRels ρ l l') {i : Nat} {x : Value} (hx : l[i]? = some x) : ∃ y, l'[i]? = some y ∧ VRel ρ x y := by
  have hi : i < l'.length := by rw [← h.1]; exact (List.getElem?_eq_some_iff.1 hx).1
  exact ⟨l'[i], List.getElem?_eq_getElem hi, h.2 i x _ hx (List.getElem?_eq_getElem hi)⟩
theorem drop {l l' : List Value} (h : VRels ρ l l') (n : Nat) : VRels ρ (l.drop n) (l'.drop n) :=
  ⟨by simp [h.1], fun i x y a b => by rw [List.getElem?_drop] at a b; exact h.2 _ x y a b⟩
theorem take {l l' : List Value} (h : VRels ρ l l') (n : Nat) : VRels ρ (l.take n) (l'.take n) :=
  ⟨by simp [h.1], fun i x y a b => by
    rw [List.getElem?_take] at a b
    by_cases hi : i < n
    · rw [if_pos hi] at a b; exact h.2 _ x y a b
    · rw [if_neg hi] at a; cases a⟩
end VRels

theorem VRels.toAgg {ρ : Inj} {a a' : Array Value} (h : VRels ρ a.toList a'.toList) : VRel ρ (.agg a) (.agg a') :=
  .agg (by simpa using h.1) fun i x y ha hb => h.2 i x y (by simpa using ha) (by simpa using hb)
theorem VRels.toTuple {ρ : Inj} {a a' : Array Value} (h : VRels ρ a.toList a'.toList) : VRel ρ (.tuple a) (.tuple a') :=
  .tuple (by simpa using h.1) fun i x y ha hb => h.2 i x y (by simpa using ha) (by simpa using hb)
theorem VRel.agg_inv {ρ : Inj} {a : Array Value} {v : Value} (h : VRel ρ (.agg a) v) : ∃ a', v = .agg a' ∧ VRels ρ a.toList a'.toList := by
  cases h with | agg ha ea => exact ⟨_, rfl, by simpa using ha, fun i x y h1 h2 => ea i x y (by simpa using h1) (by simpa using h2)⟩
theorem VRel.tuple_inv {ρ : Inj} {a : Array Value} {v : Value} (h : VRel ρ (.tuple a) v) : ∃ a', v = .tuple a' ∧ VRels ρ a.toList a'.toList := by
  cases h with | tuple ha ea => exact ⟨_, rfl, by simpa using ha, fun i x y h1 h2 => ea i x y (by simpa using h1) (by simpa using h2)⟩
theorem VRel.undef {ρ : Inj} : VRel ρ Go.undef Go.undef := VRels.toTuple VRels.nil
theorem VRel.cells {ρ : Inj} {v v' : Value} (h : VRel ρ v v') : VRels ρ v.cells.toList v'.cells.toList := by
  cases h with
  | agg ha ea => exact ⟨by simpa [Value.cells] using ha, fun i x y h1 h2 => ea i x y (by simpa [Value.cells] using h1) (by simpa [Value.cells] using h2)⟩
  | _ => refine VRels.cons ?_ VRels.nil; constructor <;> assumption

/-! ### Frames -/
theorem trGo_get {α : Type} : ∀ (l : List α) (i : Nat) (t : Tr α) (n : Nat), (trGo l i t).get n = if i ≤ n ∧ n < i + l.length then l[n - i]? else t.get n := by
  intro l
  induction l with
  | nil => intro i t n; rw [if_neg (by intro h; have := h.2; simp at this; omega)]; rfl
  | cons x l ih =>
    intro i t n
    simp only [trGo, ih, Tr.get_set, List.length_cons]
    by_cases h1 : n = i
    · subst h1
      rw [if_neg (by omega), if_pos rfl, if_pos (by omega)]; simp
    · by_cases h2 : i + 1 ≤ n ∧ n < i + 1 + l.length
      · rw [if_pos h2, if_pos (by omega)]
        obtain ⟨k, rfl⟩ := Nat.exists_eq_add_of_le h2.1
        rw [show i + 1 + k - (i + 1) = k by omega, show i + 1 + k - i = k + 1 by omega]; rfl
      · rw [if_neg h2, if_neg h1, if_neg (by omega)]

theorem trOf_get {α : Type} (l : List α) (n : Nat) : (trOf l).get n = l[n]? := by
  unfold trOf
  rw [trGo_get]
  by_cases h : n < l.length
  · rw [if_pos (by omega)]; simp
  · rw [if_neg (by omega)]
    rw [List.getElem?_eq_none (by omega)]
    cases n <;> rfl

theorem nblt (a b : Nat) : Nat.blt a b = decide (a < b) := by
  rw [Bool.eq_iff_iff]; simp [Nat.blt]; omega

@[simp] theorem lset_n (fr : Fr) (t : Nat) (v : Value) : (lset fr t v).n = fr.n := by
  unfold lset; cases Nat.blt t fr.n <;> rfl

theorem lget_out {fr : Fr} {x : Nat} (h : ¬ x < fr.n) : lget fr x = undef := by
  simp [lget, nblt, h]

theorem lget_lset (fr : Fr) (t x : Nat) (v : Value) : lget (lset fr t v) x = if x = t ∧ x < fr.n then v else lget fr x := by
  by_cases hx : x < fr.n
  · by_cases ht : t < fr.n
    · simp only [lget, lset, nblt, ht, decide_true, cond_true, hx, Tr.get_set]
      by_cases e : x = t <;> simp [e]
    · have : x ≠ t := fun e => ht (e ▸ hx)
      simp [lset, nblt, ht, this]
  · rw [lget_out (by simpa using hx), lget_out hx, if_neg (fun h => hx h.2)]

/-- A frame, and the model's one. -/
def FrRelT (ρ : Inj) (fr : Fr) (tmps : Array Value) : Prop := fr.n = tmps.size ∧ ∀ x, VRel ρ (lget fr x) (tmps.getD x undef)

theorem FrRelT.mono {ρ ρ' : Inj} (hle : ρ.le ρ') {fr : Fr} {t : Array Value} (h : FrRelT ρ fr t) : FrRelT ρ' fr t := ⟨h.1, fun x => (h.2 x).mono hle⟩

theorem lset_rel {ρ : Inj} {fr : Fr} {t : Array Value} (hf : FrRelT ρ fr t) (i : Nat) {v v' : Value} (hv : VRel ρ v v') : FrRelT ρ (lset fr i v) (t.setIfInBounds i v') := by
  refine ⟨by simp [hf.1], fun x => ?_⟩
  rw [lget_lset]
  by_cases hx : x = i ∧ x < fr.n
  · rw [if_pos hx]
    obtain ⟨rfl, hlt⟩ := hx
    rw [hf.1] at hlt
    simpa [Array.getD_eq_getD_getElem?, hlt] using hv
  · rw [if_neg hx]
    by_cases e : x = i
    · subst e
      have hn : ¬ x < t.size := fun h => hx ⟨rfl, by rw [hf.1]; exact h⟩
      have := hf.2 x
      simpa [Array.getD_eq_getD_getElem?, hn] using this
    · have := hf.2 x
      rw [Array.getD_eq_getD_getElem?, Array.getElem?_setIfInBounds_ne (Ne.symm e)]
      simpa [Array.getD_eq_getD_getElem?] using this

theorem frOf_rel {ρ : Inj} {args args' : List Value} (ha : VRels ρ args args') (n : Nat) : FrRelT ρ (frOf args n) (args'.toArray ++ Array.replicate (n - args'.toArray.size) undef) := by
  refine ⟨by simp [frOf, ha.1], fun x => ?_⟩
  by_cases hx : x < args.length
  · obtain ⟨y, hy, hv⟩ := ha.get (List.getElem?_eq_getElem hx)
    have hx' : x < args'.length := by rw [← ha.1]; exact hx
    have h1 : lget (frOf args n) x = args[x] := by
      simp [lget, frOf, nblt, trOf_get, List.getElem?_eq_getElem hx, show x < args.length + (n - args.length) by omega]
    have h2 : (args'.toArray ++ Array.replicate (n - args'.toArray.size) undef).getD x undef = y := by
      rw [Array.getD_eq_getD_getElem?, Array.getElem?_append_left (by simpa using hx')]
      simp [hy]
    rw [h1, h2]; exact hv
  · have h1 : lget (frOf args n) x = undef := by
      by_cases hn : x < args.length + (n - args.length)
      · simp [lget, frOf, nblt, trOf_get, List.getElem?_eq_none (show args.length ≤ x by omega), hn]
      · exact lget_out (by simpa [frOf] using hn)
    have h2 : (args'.toArray ++ Array.replicate (n - args'.toArray.size) undef).getD x undef = undef := by
      rw [Array.getD_eq_getD_getElem?, Array.getElem?_append_right (by simp; rw [← ha.1]; omega), Array.getElem?_replicate]
      split <;> rfl
    rw [h1, h2]; exact VRel.undef

/-! ### Blocks -/
def ERel (ρ : Inj) (e e' : MapEntry) : Prop := VRel ρ e.key e'.key ∧ VRel ρ e.val e'.val ∧ e.born = e'.born
def ERels (ρ : Inj) (l l' : List MapEntry) : Prop := l.length = l'.length ∧ ∀ (i : Nat) (x y : MapEntry), l[i]? = some x → l'[i]? = some y → ERel ρ x y

def Blk.live : Blk → Prop
  | .dead => False
  | _ => True
/-- A block that may be written. -/
def Blk.rw : Blk → Prop
  | .dead => False
  | .cells _ ro _ => ro = false
  | _ => True

/-- What a row's shape says of the world's row. -/
def TagOk : Tag → TypeId → Nat → Prop
  | .any, _, _ => True
  | .var t, elem, shift => elem = t ∧ shift = 0
  | .row t, elem, _ => elem = t

theorem TagOk.keep {ty : Tag} {elem e : TypeId} {s s' : Nat} (h : TagOk ty elem s) : TagOk (keep ty e) elem s' := by
  cases ty with
  | any => trivial
  | var t => trivial
  | row t =>
    have h : elem = t := h
    by_cases hte : t = e
    · have : Ab.keep (.row t) e = .row e := by simp [Ab.keep, hte]
      rw [this]; exact h.trans hte
    · have : Ab.keep (.row t) e = .any := by simp [Ab.keep, nbeq, hte]
      rw [this]; trivial

theorem TagOk.row_keep {ty : Tag} {e : TypeId} {s : Nat} : TagOk (Ab.keep ty e) e s := by
  cases ty with
  | any => trivial
  | var t => trivial
  | row t =>
    by_cases hte : t = e
    · have : Ab.keep (.row t) e = .row e := by simp [Ab.keep, hte]
      rw [this]; exact rfl
    · have : Ab.keep (.row t) e = .any := by simp [Ab.keep, nbeq, hte]
      rw [this]; trivial

def BlkRel (ρ : Inj) (w : World) (l : Loc) : Blk → Prop
  | .cells cs ro ty => ∃ c elem fz, w.heap[l.block]? = some (.cells c elem fz) ∧ TagOk ty elem l.shift ∧ cs.length ≤ l.ecap ∧ l.shift + l.ecap ≤ c.size ∧
      (∀ (i : Nat) (x : Value), cs[i]? = some x → ∃ y, c[l.shift + i]? = some y ∧ VRel ρ x y) ∧ (ro = false → fz.1 = fz.2 ∨ l.shift + l.ecap ≤ fz.1)
  | .map es clock => l.shift = 0 ∧ ∃ es', w.heap[l.block]? = some (.map es' clock) ∧ ERels ρ es es'.toList
  | .siter s pos => l.shift = 0 ∧ w.heap[l.block]? = some (.stringIter s pos)
  | .abs d => d.rep l w
  | .loop st pe tmps ps as body => l.shift = 0 ∧ ∃ fn tmps' dfr, w.heap[l.block]? = some (.loop { state := st, pending := pe, fn, tmps := tmps', params := ps.toArray, assign := as, body, defers := dfr }) ∧ FrRelT ρ tmps tmps'
  | .dead => True

theorem not_frozen {fz : Nat × Nat} {a n : Nat} (h : fz.1 = fz.2 ∨ a + n ≤ fz.1) : ∀ i, i < n → ¬ (fz.1 ≤ a + i ∧ a + i < fz.2) := fun i hi => by omega

/-- The world's blocks that are a block's own. -/
def Blk.foot (x : Blk) (w : World) (l : Loc) : List Nat := match x with
  | .abs d => l.block :: d.own l w
  | _ => [l.block]
/-- A block that is known cell by cell. -/
def Blk.plain : Blk → Prop
  | .abs _ => False
  | _ => True

theorem foot_self (x : Blk) (w : World) (l : Loc) : l.block ∈ x.foot w l := by cases x <;> simp [Blk.foot]
theorem foot_plain {x : Blk} (h : x.plain) (w : World) (l : Loc) : x.foot w l = [l.block] := by cases x <;> first | rfl | exact h.elim

structure HRel (ρ : Inj) (h : Heap) (w : World) : Prop where
  blk : ∀ b x, h.get b = some x → x.live → ∃ l, ρ b = some l ∧ BlkRel ρ w l x
  apartF : ∀ b b' x x' l l', b ≠ b' → h.get b = some x → h.get b' = some x' → x.rw → x'.live → ρ b = some l → ρ b' = some l' → ∀ r ∈ x.foot w l, r ∉ x'.foot w l'
  fresh : ∀ b, h.next ≤ b → ρ b = none
  glob : ∀ g, g < h.base → ∃ n, ρ g = some ⟨g, 0, n⟩

theorem HRel.apart {ρ : Inj} {h : Heap} {w : World} (hr : HRel ρ h w) : ∀ b b' x x' l l', b ≠ b' → h.get b = some x → h.get b' = some x' → x.rw → x'.live → ρ b = some l → ρ b' = some l' → l.block ≠ l'.block :=
  fun b b' x x' l l' h0 h1 h2 h3 h4 h5 h6 e => hr.apartF b b' x x' l l' h0 h1 h2 h3 h4 h5 h6 l.block (foot_self x w l) (by rw [e]; exact foot_self x' w l')

/-- What has become of a world, and of where things lie. -/
structure Grow (ρ : Inj) (h : Heap) (w : World) (ρ' : Inj) (h' : Heap) (w' : World) : Prop where
  inj : ρ.le ρ'
  old : ∀ b, b < h.next → ρ' b = ρ b
  rel : HRel ρ' h' w'
  next : h.next ≤ h'.next
  base : h'.base = h.base
  size : w.heap.size ≤ w'.heap.size
  frame : ∀ r, r < w.heap.size → (∀ b x l, h.get b = some x → x.rw → ρ b = some l → r ∉ x.foot w l) → w'.heap[r]? = w.heap[r]?
  img : ∀ b x l, h'.get b = some x → x.live → ρ' b = some l → ∀ r ∈ x.foot w' l, w.heap.size ≤ r ∨ (∃ b0 x0 l0, h.get b0 = some x0 ∧ x0.live ∧ (x.rw → x0.rw) ∧ ρ b0 = some l0 ∧ r ∈ x0.foot w l0)
  os : w'.os = w.os
  tape : w'.tape = w.tape
  output : w'.output = w.output

theorem Blk.rw.live {x : Blk} (h : x.rw) : x.live := by cases x <;> simp_all [Blk.rw, Blk.live]

theorem Grow.refl {ρ : Inj} {h : Heap} {w : World} (hr : HRel ρ h w) : Grow ρ h w ρ h w :=
  ⟨ρ.le_refl, fun _ _ => rfl, hr, Nat.le_refl _, rfl, Nat.le_refl _, fun _ _ _ => rfl, fun b x l hb hx hl _ e => .inr ⟨b, x, l, hb, hx, id, hl, e⟩, rfl, rfl, rfl⟩

theorem Grow.trans {ρ ρ1 ρ2 : Inj} {h h1 h2 : Heap} {w w1 w2 : World} (a : Grow ρ h w ρ1 h1 w1) (b : Grow ρ1 h1 w1 ρ2 h2 w2) : Grow ρ h w ρ2 h2 w2 where
  inj := Inj.le_trans a.inj b.inj
  old := fun x hx => by rw [b.old x (Nat.lt_of_lt_of_le hx a.next), a.old x hx]
  rel := b.rel
  next := Nat.le_trans a.next b.next
  base := b.base.trans a.base
  size := Nat.le_trans a.size b.size
  frame := fun r hr hf => by
    rw [b.frame r (Nat.lt_of_lt_of_le hr a.size) ?_, a.frame r hr hf]
    intro y x l hy hx hl e
    rcases a.img y x l hy hx.live hl r e with h' | ⟨b0, x0, l0, g0, lv0, r0, i0, e0⟩
    · omega
    · exact hf b0 x0 l0 g0 (r0 hx) i0 e0
  img := fun y x l hy hx hl r e => by
    rcases b.img y x l hy hx hl r e with h' | ⟨b0, x0, l0, g0, lv0, r0, i0, e0⟩
    · exact .inl (Nat.le_trans a.size h')
    · rcases a.img b0 x0 l0 g0 lv0 i0 r e0 with h' | ⟨b1, x1, l1, g1, lv1, r1, i1, e1⟩
      · exact .inl h'
      · exact .inr ⟨b1, x1, l1, g1, lv1, fun h => r1 (r0 h), i1, e1⟩
  os := b.os.trans a.os
  tape := b.tape.trans a.tape
  output := b.output.trans a.output

@[simp] theorem Heap.base_set (h : Heap) (n : Nat) (x : Blk) : (h.set n x).base = h.base := rfl
@[simp] theorem Heap.base_push (h : Heap) (x : Blk) : (h.push x).base = h.base := rfl

theorem BlkRel.mono {ρ ρ' : Inj} {w w' : World} {l : Loc} {x : Blk} (hle : ρ.le ρ') (hF : ∀ r ∈ x.foot w l, w'.heap[r]? = w.heap[r]?) (h : BlkRel ρ w l x) : BlkRel ρ' w' l x := by
  have hw := hF l.block (foot_self x w l)
  cases x with
  | cells cs ro ty =>
    obtain ⟨c, elem, fz, h1, ht, h2, h3, h4, h5⟩ := h
    exact ⟨c, elem, fz, by rw [hw]; exact h1, ht, h2, h3, fun i x hx => let ⟨y, hy, hv⟩ := h4 i x hx; ⟨y, hy, hv.mono hle⟩, h5⟩
  | map es clock =>
    obtain ⟨h0, es', h1, h2⟩ := h
    exact ⟨h0, es', by rw [hw]; exact h1, h2.1, fun i x y hx hy => let ⟨a, b, c⟩ := h2.2 i x y hx hy; ⟨a.mono hle, b.mono hle, c⟩⟩
  | siter s pos => exact ⟨h.1, by rw [hw]; exact h.2⟩
  | loop st pe tmps ps as body =>
    obtain ⟨h0, fn, tmps', dfr, h1, h2⟩ := h
    exact ⟨h0, fn, tmps', dfr, by rw [hw]; exact h1, h2.mono hle⟩
  | abs d => exact (AbsData.stays hF h).1
  | dead => trivial

/-- A block's own blocks are the same where they have not turned. -/
theorem foot_stays {ρ : Inj} {w w' : World} {l : Loc} {x : Blk} (hF : ∀ r ∈ x.foot w l, w'.heap[r]? = w.heap[r]?) (h : BlkRel ρ w l x) : x.foot w' l = x.foot w l := by
  cases x with
  | abs d => simp only [Blk.foot, (AbsData.stays hF h).2]
  | _ => rfl

theorem BlkRel.ltF {ρ : Inj} {w : World} {l : Loc} {x : Blk} (hx : x.live) (h : BlkRel ρ w l x) : ∀ r ∈ x.foot w l, r < w.heap.size := by
  have key : ∀ o, w.heap[l.block]? = some o → ∀ r ∈ [l.block], r < w.heap.size := fun o ho r hr => by
    rw [List.mem_singleton.1 hr]; exact (Array.getElem?_eq_some_iff.1 ho).1
  cases x with
  | cells cs ro ty => obtain ⟨c, elem, fz, h1, _⟩ := h; exact key _ h1
  | map es clock => obtain ⟨_, es', h1, _⟩ := h; exact key _ h1
  | siter s pos => exact key _ h.2
  | loop st pe tmps ps as body => obtain ⟨_, fn, tmps', dfr, h1, _⟩ := h; exact key _ h1
  | abs d => exact AbsData.lt h
  | dead => exact hx.elim

theorem BlkRel.lt {ρ : Inj} {w : World} {l : Loc} {x : Blk} (h : BlkRel ρ w l x) (hx : x.live) : l.block < w.heap.size := BlkRel.ltF hx h l.block (foot_self x w l)

/-- The rest of a world: all but its memory and the draws. -/
structure SameRest (w w' : World) : Prop where
  os : w'.os = w.os
  tape : w'.tape = w.tape
  output : w'.output = w.output

/-- A block that may be written is another one now. -/
theorem grow_upd {ρ : Inj} {h : Heap} {w w' : World} {b : Nat} {x x' : Blk} {l : Loc} {o : Obj} (hr : HRel ρ h w) (hb : h.get b = some x) (hx : x.rw) (hl : ρ b = some l)
    (hw : w'.heap = w.heap.setIfInBounds l.block o) (hs : SameRest w w') (hx' : x'.live → BlkRel ρ w' l x') (hpl : x'.plain := by trivial) : Grow ρ h w ρ (h.set b x') w' := by
  have hold : ∀ r, r ≠ l.block → w'.heap[r]? = w.heap[r]? := fun r hne => by rw [hw, Array.getElem?_setIfInBounds_ne (Ne.symm hne)]
  have hsz : w'.heap.size = w.heap.size := by rw [hw]; simp
  have hfeet : ∀ c y k, c ≠ b → h.get c = some y → y.live → ρ c = some k → ∀ r ∈ y.foot w k, w'.heap[r]? = w.heap[r]? := fun c y k e hc hy hk r hrf =>
    hold r fun e' => hr.apartF b c x y l k (Ne.symm e) hb hc hx hy hl hk l.block (foot_self x w l) (by rw [← e']; exact hrf)
  have hfoot : ∀ c y k, c ≠ b → h.get c = some y → y.live → ρ c = some k → y.foot w' k = y.foot w k := fun c y k e hc hy hk => by
    obtain ⟨k', hk', hbk⟩ := hr.blk c y hc hy
    rw [hk] at hk'; cases hk'
    exact foot_stays (hfeet c y k e hc hy hk) hbk
  refine ⟨ρ.le_refl, fun _ _ => rfl, ⟨?_, ?_, hr.fresh, hr.glob⟩, Nat.le_refl _, rfl, by omega, ?_, ?_, hs.os, hs.tape, hs.output⟩
  · intro c y hc hy
    rw [Heap.get_set] at hc
    by_cases e : c = b
    · subst e; rw [if_pos rfl] at hc; cases hc; exact ⟨l, hl, hx' hy⟩
    · rw [if_neg e] at hc
      obtain ⟨k, hk, hbk⟩ := hr.blk c y hc hy
      exact ⟨k, hk, hbk.mono ρ.le_refl (hfeet c y k e hc hy hk)⟩
  · intro c d y z k m hne hc hd hy hz hk hm r hrf
    rw [Heap.get_set] at hc hd
    by_cases e : c = b
    · subst e
      rw [if_neg (Ne.symm hne)] at hd
      rw [if_pos rfl] at hc; cases hc
      rw [hl] at hk; cases hk
      rw [foot_plain hpl] at hrf
      rw [hfoot d z m (Ne.symm hne) hd hz hm, List.mem_singleton.1 hrf]
      exact hr.apartF c d x z l m hne hb hd hx hz hl hm l.block (foot_self x w l)
    · rw [if_neg e] at hc
      rw [hfoot c y k e hc hy.live hk] at hrf
      by_cases e2 : d = b
      · subst e2
        rw [hl] at hm; cases hm
        rw [if_pos rfl] at hd; cases hd
        rw [foot_plain hpl]
        intro hrl
        rw [List.mem_singleton.1 hrl] at hrf
        exact hr.apartF c d y x k l hne hc hb hy hx.live hk hl l.block hrf (foot_self x w l)
      · rw [if_neg e2] at hd
        rw [hfoot d z m e2 hd hz hm]
        exact hr.apartF c d y z k m hne hc hd hy hz hk hm r hrf
  · intro r _ hf
    exact hold r (fun e => hf b x l hb hx hl (by rw [e]; exact foot_self x w l))
  · intro c y k hc hy hk r hrf
    rw [Heap.get_set] at hc
    by_cases e : c = b
    · subst e; rw [hl] at hk; cases hk
      rw [if_pos rfl] at hc; cases hc
      rw [foot_plain hpl] at hrf
      exact .inr ⟨c, x, l, hb, hx.live, fun _ => hx, hl, by rw [List.mem_singleton.1 hrf]; exact foot_self x w l⟩
    · rw [if_neg e] at hc
      rw [hfoot c y k e hc hy hk] at hrf
      exact .inr ⟨c, y, k, hc, hy, id, hk, hrf⟩

def Inj.upd (ρ : Inj) (b : Nat) (l : Loc) : Inj := fun x => if x = b then some l else ρ x
theorem Inj.upd_same (ρ : Inj) (b : Nat) (l : Loc) : ρ.upd b l b = some l := if_pos rfl
theorem Inj.upd_ne (ρ : Inj) {b x : Nat} (l : Loc) (h : x ≠ b) : ρ.upd b l x = ρ x := if_neg h
theorem Inj.le_upd {ρ : Inj} {b : Nat} {l : Loc} (h : ρ b = none) : ρ.le (ρ.upd b l) := fun x k hx => by
  by_cases e : x = b
  · subst e; rw [h] at hx; cases hx
  · rw [Inj.upd_ne ρ l e]; exact hx

/-- A new block. -/
theorem grow_new {ρ : Inj} {h : Heap} {w w' : World} {x : Blk} {l : Loc} {o : Obj} (hr : HRel ρ h w) (hl : l.block = w.heap.size) (hw : w'.heap = w.heap.push o) (hs : SameRest w w')
    (hx : BlkRel (ρ.upd h.next l) w' l x) (hpl : x.plain := by trivial) : Grow ρ h w (ρ.upd h.next l) (h.push x) w' := by
  have hfresh := hr.fresh h.next (Nat.le_refl _)
  have hle : ρ.le (ρ.upd h.next l) := Inj.le_upd hfresh
  have hold : ∀ r, r < w.heap.size → w'.heap[r]? = w.heap[r]? := fun r hlt => by rw [hw, Array.getElem?_push_lt hlt, Array.getElem?_eq_getElem hlt]
  have hget : ∀ c y, (h.push x).get c = some y → c ≠ h.next → h.get c = some y := fun c y hc e => by rw [Heap.get_push, if_neg e] at hc; exact hc
  have hfeet : ∀ c y k, h.get c = some y → y.live → ρ c = some k → (∀ r ∈ y.foot w k, r < w.heap.size) ∧ y.foot w' k = y.foot w k := fun c y k hc hy hk => by
    obtain ⟨k', hk', hbk⟩ := hr.blk c y hc hy
    rw [hk] at hk'; cases hk'
    have h1 := BlkRel.ltF hy hbk
    exact ⟨h1, foot_stays (fun r hrf => hold r (h1 r hrf)) hbk⟩
  refine ⟨hle, fun b hb => Inj.upd_ne ρ l (by omega), ⟨?_, ?_, ?_, ?_⟩, by simp, rfl, by rw [hw]; simp, fun r hr' _ => hold r hr', ?_, hs.os, hs.tape, hs.output⟩
  · intro c y hc hy
    by_cases e : c = h.next
    · subst e
      rw [Heap.get_push, if_pos rfl] at hc; cases hc
      exact ⟨l, Inj.upd_same _ _ _, hx⟩
    · obtain ⟨k, hk, hbk⟩ := hr.blk c y (hget c y hc e) hy
      exact ⟨k, by rw [Inj.upd_ne ρ l e]; exact hk, hbk.mono hle fun r hrf => hold r ((hfeet c y k (hget c y hc e) hy hk).1 r hrf)⟩
  · intro c d y z k m hne hc hd hy hz hk hm r hrf
    by_cases e : c = h.next
    · subst e
      rw [Heap.get_push, if_pos rfl] at hc; cases hc
      rw [Inj.upd_same] at hk; cases hk
      rw [Inj.upd_ne ρ l (Ne.symm hne)] at hm
      obtain ⟨h1, h2⟩ := hfeet d z m (hget d z hd (Ne.symm hne)) hz hm
      rw [foot_plain hpl] at hrf
      rw [h2, List.mem_singleton.1 hrf]
      intro hc'
      have := h1 _ hc'
      omega
    · rw [Inj.upd_ne ρ l e] at hk
      obtain ⟨h1, h2⟩ := hfeet c y k (hget c y hc e) hy.live hk
      rw [h2] at hrf
      by_cases e2 : d = h.next
      · subst e2
        rw [Heap.get_push, if_pos rfl] at hd; cases hd
        rw [Inj.upd_same] at hm; cases hm
        rw [foot_plain hpl]
        intro hrl
        rw [List.mem_singleton.1 hrl] at hrf
        have := h1 _ hrf
        omega
      · rw [Inj.upd_ne ρ l e2] at hm
        rw [(hfeet d z m (hget d z hd e2) hz hm).2]
        exact hr.apartF c d y z k m hne (hget c y hc e) (hget d z hd e2) hy hz hk hm r hrf
  · intro b hb
    simp at hb
    rw [Inj.upd_ne ρ l (by omega)]; exact hr.fresh b (by omega)
  · intro g hg
    obtain ⟨n, hn⟩ := hr.glob g hg
    exact ⟨n, hle _ _ hn⟩
  · intro c y k hc hy hk r hrf
    by_cases e : c = h.next
    · subst e
      rw [Heap.get_push, if_pos rfl] at hc; cases hc
      rw [Inj.upd_same] at hk; cases hk
      rw [foot_plain hpl] at hrf
      exact .inl (by rw [List.mem_singleton.1 hrf]; omega)
    · rw [Inj.upd_ne ρ l e] at hk
      rw [(hfeet c y k (hget c y hc e) hy hk).2] at hrf
      exact .inr ⟨c, y, k, hget c y hc e, hy, id, hk, hrf⟩

/-- Nothing that was there has turned. -/
theorem grow_keep {ρ : Inj} {h : Heap} {w w' : World} (hr : HRel ρ h w) (hsz : w.heap.size ≤ w'.heap.size) (hold : ∀ r, r < w.heap.size → w'.heap[r]? = w.heap[r]?) (hs : SameRest w w') : Grow ρ h w ρ h w' := by
  have hfeet : ∀ c y k, h.get c = some y → y.live → ρ c = some k → (∀ r ∈ y.foot w k, w'.heap[r]? = w.heap[r]?) ∧ y.foot w' k = y.foot w k := fun c y k hc hy hk => by
    obtain ⟨k', hk', hbk⟩ := hr.blk c y hc hy
    rw [hk] at hk'; cases hk'
    have h1 : ∀ r ∈ y.foot w k, w'.heap[r]? = w.heap[r]? := fun r hrf => hold r (BlkRel.ltF hy hbk r hrf)
    exact ⟨h1, foot_stays h1 hbk⟩
  refine ⟨ρ.le_refl, fun _ _ => rfl, ⟨?_, ?_, hr.fresh, hr.glob⟩, Nat.le_refl _, rfl, hsz, fun r hr' _ => hold r hr', ?_, hs.os, hs.tape, hs.output⟩
  · intro b x hb hx
    obtain ⟨l, hl, hbk⟩ := hr.blk b x hb hx
    exact ⟨l, hl, hbk.mono ρ.le_refl (hfeet b x l hb hx hl).1⟩
  · intro c d y z k m hne hc hd hy hz hk hm r hrf
    rw [(hfeet c y k hc hy.live hk).2] at hrf
    rw [(hfeet d z m hd hz hm).2]
    exact hr.apartF c d y z k m hne hc hd hy hz hk hm r hrf
  · intro b x l hb hx hl r hrf
    rw [(hfeet b x l hb hx hl).2] at hrf
    exact .inr ⟨b, x, l, hb, hx, id, hl, hrf⟩

/-- Nothing has turned but draws. -/
theorem grow_drew {ρ : Inj} {h : Heap} {w w' : World} (hr : HRel ρ h w) (hw : w'.heap = w.heap) (hs : SameRest w w') : Grow ρ h w ρ h w' :=
  grow_keep hr (by rw [hw]; exact Nat.le_refl _) (fun r _ => by rw [hw]) hs
end Go.Ab
