/- Maps written. -/
import Derived.Test.YtecfekfenhacpaaGreatAbOpsK
namespace Go.Ab
open Go
set_option linter.unusedVariables false
set_option linter.unusedSimpArgs false
variable {R : Type} {P : Program}

theorem putC_spec {kk : KK} {x : D} {v : V} : ∀ {es : List (Nat × D × V)} {k : List (Nat × D × V) → Bool → Option R} {r : R}, putC kk x v es k = some r →
    ∃ o, FirstAt kk x es o ∧ (match o with
      | none => k es false = some r
      | some i => ∃ e, es[i]? = some e ∧ k (es.set i (e.1, x, v)) true = some r)
  | [], k, r, h => ⟨none, by intro i e he; simp at he, by simpa [putC] using h⟩
  | e :: es, k, r, h => by
    obtain ⟨n, y, u⟩ := e
    simp only [putC, Option.bind_eq_some_iff] at h
    obtain ⟨b, hb, h⟩ := h
    cases b with
    | true => exact ⟨some 0, ⟨⟨(n, y, u), rfl, hb⟩, by intro j e hj; omega⟩, (n, y, u), rfl, by simpa using h⟩
    | false =>
      obtain ⟨o, h1, h2⟩ := putC_spec h
      cases o with
      | none => exact ⟨none, h1.none_cons hb, h2⟩
      | some i =>
        obtain ⟨e, he, h2⟩ := h2
        exact ⟨some (i + 1), h1.some_cons hb, e, by simpa using he, by simpa using h2⟩

/-- a cell that compares: it alone says what value it is. -/
def simpleCell : D → Bool
  | .bool _ => true
  | .int _ _ => true
  | .str _ => true
  | _ => false

theorem eqCell_true {tk : TK} {x y : D} (hx : x.isAgg = false) (hy : y.isAgg = false) (h : eqCell tk x y = some true) : x = y ∧ simpleCell x = true := by
  cases tk <;> simp only [eqCell, Option.bind_eq_some_iff] at h <;> try (simp at h; done)
  · obtain ⟨a, ha, c, hc, e⟩ := h
    simp at e; subst e
    rw [cellInt_zero hx ha, cellInt_zero hy hc]; exact ⟨rfl, rfl⟩
  · obtain ⟨a, ha, c, hc, e⟩ := h
    simp at e; subst e
    rw [cellBool_zero hx ha, cellBool_zero hy hc]; exact ⟨rfl, rfl⟩
  · obtain ⟨a, ha, c, hc, e⟩ := h
    simp at e; subst e
    rw [cellStr_zero hx ha, cellStr_zero hy hc]; exact ⟨rfl, rfl⟩

theorem eqCells_true : ∀ {ks : List TK} {xs ys : List D}, (∀ x, x ∈ xs → x.isAgg = false) → (∀ y, y ∈ ys → y.isAgg = false) → eqCells ks xs ys = some true → xs = ys ∧ ∀ x, x ∈ xs → simpleCell x = true
  | [], [], [], _, _, _ => ⟨rfl, by simp⟩
  | [], [], y :: ys, _, _, h => by simp [eqCells] at h
  | [], x :: xs, ys, _, _, h => by simp [eqCells] at h
  | k :: ks, [], ys, _, _, h => by simp [eqCells] at h
  | k :: ks, x :: xs, [], _, _, h => by simp [eqCells] at h
  | k :: ks, x :: xs, y :: ys, h1, h2, h => by
    simp only [eqCells, Option.bind_eq_some_iff] at h
    obtain ⟨a, ha, c, hc, e⟩ := h
    simp at e; obtain ⟨rfl, rfl⟩ := e
    obtain ⟨rfl, hs⟩ := eqCell_true (h1 x (by simp)) (h2 y (by simp)) ha
    obtain ⟨rfl, ht⟩ := eqCells_true (fun z hz => h1 z (by simp [hz])) (fun z hz => h2 z (by simp [hz])) hc
    refine ⟨rfl, fun z hz => ?_⟩
    rcases List.mem_cons.1 hz with rfl | hz
    · exact hs
    · exact ht z hz

theorem simpleCell_one {I : Im} {x : D} {c c' : Value} (hs : simpleCell x = true) (h : RD I x c) (h' : RD I x c') : c = c' := by
  cases x <;> simp [simpleCell] at hs <;> cases h <;> cases h' <;> rfl

theorem sameBits_cell {I : Im} {x : D} {c : Value} (hs : simpleCell x = true) (h : RD I x c) (n : Nat) : Instr.sameBits n c c = true := by
  cases x <;> simp [simpleCell] at hs <;> cases h <;> cases n <;> simp [Instr.sameBits, bytes_beq]

theorem sameBits_key {I : Im} {kk : KK} {x y : D} {cx cy : Value} (h : eqKey kk x y = some true) (rx : RD I x cx) (ry : RD I y cy) (n : Nat) : Instr.sameBits (n + 1) cy cx = true := by
  unfold eqKey at h
  split at h
  · rename_i hx hy hs
    obtain ⟨xs, ax, rfl, rfl, rx⟩ := fits_cells rx hx
    obtain ⟨ys, ay, rfl, rfl, ry⟩ := fits_cells ry hy
    cases rx with | agg _ _ a1 a2 a3 =>
    cases ry with | agg _ _ b1 b2 b3 =>
    have mem : ∀ {l : List D}, (∀ (j : Nat) (x : D), l[j]? = some x → x.isAgg = false) → ∀ x, x ∈ l → x.isAgg = false := fun hl x hx => by
      obtain ⟨j, hj, e⟩ := List.getElem_of_mem hx
      exact hl j x (by rw [List.getElem?_eq_getElem hj, e])
    obtain ⟨e, hsim⟩ := eqCells_true (mem a2) (mem b2) h
    subst e
    have hax : ax = ay := by
      apply Array.ext (by omega)
      intro j hj hj'
      have hx : xs[j]? = some (xs[j]'(by omega)) := List.getElem?_eq_getElem (by omega)
      exact simpleCell_one (hsim _ (List.getElem_mem _)) (a3 j _ _ hx (Array.getElem?_eq_getElem hj)) (b3 j _ _ hx (Array.getElem?_eq_getElem hj'))
    subst hax
    simp only [Instr.sameBits, beq_self_eq_true, Bool.true_and, List.all_eq_true]
    intro p hp
    obtain ⟨j, hj, e⟩ := List.getElem_of_mem hp
    simp at hj
    simp at e
    subst e
    have hx : xs[j]? = some (xs[j]'(by omega)) := List.getElem?_eq_getElem (by omega)
    exact sameBits_cell (hsim _ (List.getElem_mem _)) (a3 j _ _ hx (Array.getElem?_eq_getElem hj)) n
  · rename_i hx hy hs
    rw [D.cells_of_notAgg hx, D.cells_of_notAgg hy] at h
    obtain ⟨e, hsim⟩ := eqCells_true (by simp [hx]) (by simp [hy]) h
    simp at e hsim
    subst e
    rw [simpleCell_one hsim rx ry]
    exact sameBits_cell hsim ry _
  · simp at h

end Go.Ab
