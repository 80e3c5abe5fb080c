/-
  The abstract evaluator: things that are known by what they hold, not by how they lie in memory.
-/
import GoSem.Dispatch
import GoSem.Machine.Frame
namespace Go.Ab
open Go

/-- Where an abstract block lies: its block, where its first cell is there, and how many cells are its own. -/
structure Loc where
  block : Nat
  shift : Nat
  ecap : Nat

/-- Words by their addresses, in the order in which they came; how many accesses there were, and the last one: kind, address, what stood, what stands. -/
structure CellsM where
  ws : List (Int × Int)
  count : Int
  kind : Int
  addr : Int
  was : Int
  is : Int

inductive AbsData where
  | cells (c : CellsM)

/-- The blocks that a map of pointers names. -/
def ptrsOf : List MapEntry → List Nat
  | [] => []
  | e :: r => (match e.val with | .pointer (some a) => [a.block] | _ => []) ++ ptrsOf r

/-- The map of a thing whose first cell is a map, and what it names. -/
def mapOwn (l : Loc) (w : World) : List Nat := match w.heap[l.block]? with
  | some (.cells c _ _) => match c[l.shift]? with
    | some (.map (some m)) => match w.heap[m]? with
      | some (.map es _) => m :: ptrsOf es.toList
      | _ => [m]
    | _ => []
  | _ => []

/-- The blocks of the world that are a thing's own, beside its first one. -/
def AbsData.own : AbsData → Loc → World → List Nat
  | .cells _, l, w => mapOwn l w

/-- Words at addresses: each has a block of its own. -/
def WordsAt (w : World) (ws : List (Int × Int)) (es : List MapEntry) : Prop :=
  es.length = ws.length ∧ ∀ (i : Nat) (e : MapEntry) (x : Int × Int), es[i]? = some e → ws[i]? = some x →
    e.key = .int .u64 x.1 ∧ ∃ r c elem, e.val = .pointer (some ⟨r, 0, none⟩) ∧ w.heap[r]? = some (.cells c elem (0, 0)) ∧ c.toList = [.int .u64 x.2]

def CellsM.rep (c : CellsM) (l : Loc) (w : World) : Prop :=
  l.shift = 0 ∧ l.ecap = 6 ∧ (l.block :: mapOwn l w).Nodup ∧ (c.ws.map (·.1)).Nodup ∧
  ∃ mp elem cs, w.heap[l.block]? = some (.cells cs elem (0, 0)) ∧ cs.toList = [.map mp, .int .i64 c.count, .int .u8 c.kind, .int .u64 c.addr, .int .u64 c.was, .int .u64 c.is] ∧
    match mp with
    | none => c.ws = []
    | some m => ∃ es clock, w.heap[m]? = some (.map es clock) ∧ WordsAt w c.ws es.toList

/-- How a thing lies in a world. -/
def AbsData.rep : AbsData → Loc → World → Prop
  | .cells c, l, w => c.rep l w

theorem ptrsOf_mem : ∀ (es : List MapEntry) (i : Nat) (e : MapEntry) (a : Addr), es[i]? = some e → e.val = .pointer (some a) → a.block ∈ ptrsOf es := by
  intro es
  induction es with
  | nil => intro i e a h; simp at h
  | cons x r ih =>
    intro i e a h hv
    cases i with
    | zero =>
      simp at h; subst h
      simp [ptrsOf, hv]
    | succ i => simp only [ptrsOf, List.mem_append]; exact .inr (ih i e a (by simpa using h) hv)

theorem ptrsOf_ex : ∀ (es : List MapEntry) (r : Nat), r ∈ ptrsOf es → ∃ (i : Nat) (e : MapEntry) (a : Addr), es[i]? = some e ∧ e.val = .pointer (some a) ∧ a.block = r := by
  intro es
  induction es with
  | nil => intro r h; cases h
  | cons x l ih =>
    intro r h
    simp only [ptrsOf, List.mem_append] at h
    rcases h with h | h
    · split at h
      · rename_i a hv
        simp at h
        exact ⟨0, x, a, rfl, hv, h.symm⟩
      · cases h
    · obtain ⟨i, e, a, h1, h2, h3⟩ := ih r h
      exact ⟨i + 1, e, a, by simpa using h1, h2, h3⟩

/-- What stands at its own blocks is all that counts. -/
theorem AbsData.stays {d : AbsData} {l : Loc} {w w' : World} (hw : ∀ r ∈ l.block :: d.own l w, w'.heap[r]? = w.heap[r]?) (h : d.rep l w) : d.rep l w' ∧ d.own l w' = d.own l w := by
  cases d with
  | cells c =>
    have hw : ∀ r ∈ l.block :: mapOwn l w, w'.heap[r]? = w.heap[r]? := hw
    have h0 := hw l.block (by simp)
    have hown : mapOwn l w' = mapOwn l w := by
      unfold mapOwn
      rw [h0]
      split
      · rename_i cs elem fz hc
        split
        · rename_i m hm
          rw [hw m (by
            unfold mapOwn
            rw [hc]; simp only [hm]
            split <;> simp)]
        · rfl
      · rfl
    obtain ⟨h1, h2, h3, h4, mp, elem, cs, h5, h6, h7⟩ := h
    refine ⟨⟨h1, h2, by rw [hown]; exact h3, h4, mp, elem, cs, by rw [h0]; exact h5, h6, ?_⟩, hown⟩
    cases mp with
    | none => exact h7
    | some m =>
      obtain ⟨es, clock, g1, g2, g3⟩ := h7
      have hcs : cs[l.shift]? = some (.map (some m)) := by
        rw [h1, ← Array.getElem?_toList, h6]; rfl
      have hm : mapOwn l w = m :: ptrsOf es.toList := by
        unfold mapOwn; rw [h5]; simp only [hcs, g1]
      refine ⟨es, clock, by rw [hw m (by rw [hm]; simp)]; exact g1, g2, fun i e x he hx => ?_⟩
      obtain ⟨q1, r, cc, el, q2, q3, q4⟩ := g3 i e x he hx
      refine ⟨q1, r, cc, el, q2, ?_, q4⟩
      rw [hw r (by rw [hm]; have := ptrsOf_mem _ i e _ he q2; simp [this])]
      exact q3

theorem AbsData.lt {d : AbsData} {l : Loc} {w : World} (h : d.rep l w) : ∀ r ∈ l.block :: d.own l w, r < w.heap.size := by
  cases d with
  | cells c =>
    obtain ⟨h1, h2, h3, h4, mp, elem, cs, h5, h6, h7⟩ := h
    intro r hr
    rcases List.mem_cons.1 hr with rfl | hr
    · exact (Array.getElem?_eq_some_iff.1 h5).1
    · have hr : r ∈ mapOwn l w := hr
      unfold mapOwn at hr
      rw [h5] at hr
      have hcs : cs[l.shift]? = some (.map mp) := by
        rw [h1, ← Array.getElem?_toList, h6]; rfl
      simp only [hcs] at hr
      cases mp with
      | none => cases hr
      | some m =>
        obtain ⟨es, clock, g1, g2, g3⟩ := h7
        simp only [g1] at hr
        rcases List.mem_cons.1 hr with rfl | hr
        · exact (Array.getElem?_eq_some_iff.1 g1).1
        · obtain ⟨i, e, a, q1, q2, q3⟩ := ptrsOf_ex _ _ hr
          have hi : i < c.ws.length := by rw [← g2]; exact (List.getElem?_eq_some_iff.1 q1).1
          obtain ⟨_, r', cc, el, p1, p2, _⟩ := g3 i e _ q1 (List.getElem?_eq_getElem hi)
          rw [q2] at p1; cases p1
          rw [← q3]
          exact (Array.getElem?_eq_some_iff.1 p2).1
end Go.Ab
