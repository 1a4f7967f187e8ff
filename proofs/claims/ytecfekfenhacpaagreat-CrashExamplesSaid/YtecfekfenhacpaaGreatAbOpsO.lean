/- Maps ranged over. -/
import Derived.Test.YtecfekfenhacpaaGreatAbOpsN
namespace Go.Ab
open Go
set_option linter.unusedVariables false
set_option linter.unusedSimpArgs false
variable {R : Type} {P : Program}

theorem iter_of {ρ : Nm} {I : Im} {m : Mem} {w : World} {n : Nat} {mo : Option Nat} {since : Nat} {seen : List Nat} {last : Nat} {c : Value} (hm : MemR ρ I m w) (hg : m.get n = some (.iter mo since seen last)) (hc : RV ρ I (.it n) c) :
    ∃ g r, ρ n = some g ∧ c = .pointer (some ⟨g.b, 0, none⟩) ∧ w.heap[g.b]? = some (.mapIter r since seen.toArray last) ∧
      match mo with
      | none => r = none
      | some n => ∃ g', ρ n = some g' ∧ r = some g'.b := by
  obtain ⟨g, hρ, r, hb, h⟩ := hm.blk n _ hg
  cases hc with | it _ g' hg' =>
  obtain rfl : g' = g := by rw [hρ] at hg'; simpa using hg'.symm
  refine ⟨g', r, hρ, rfl, hb, ?_⟩
  cases mo <;> exact h

theorem run_getObj_iter {w : World} {b : Nat} {r : Option Nat} {since : Nat} {seen : Array Nat} {last : Nat} (h : w.heap[b]? = some (.mapIter r since seen last)) : (getObj b).run P w = .ok (.mapIter r since seen last) w := by
  simp [getObj, Sem.run, h]

theorem rangeNil_step {ρ : Nm} {I : Im} {m : Mem} {w : World} (hm : MemR ρ I m w) (hn : ρ m.next = none) :
    ∃ ρ', StepR ρ I m w ρ' I (m.alloc (.iter none 0 [] 0)) (w.alloc (.mapIter none 0 #[] 0)) ∧ RV ρ' I (.it m.next) (.pointer (some ⟨w.heap.size, 0, none⟩)) :=
  ⟨_, step_newObj (.mapIter none 0 #[] 0) hm hn ⟨none, heap_alloc_new w _, rfl⟩, RV.it m.next ⟨w.heap.size, 0, 0, 0, 0⟩ (by simp [Nm.set])⟩

theorem range_step {ρ : Nm} {I : Im} {m : Mem} {w : World} {n : Nat} {g : Gh} (clock : Nat) (hm : MemR ρ I m w) (hn : ρ m.next = none) (hρ : ρ n = some g) :
    ∃ ρ', StepR ρ I m w ρ' I (m.alloc (.iter (some n) clock [] clock)) (w.alloc (.mapIter (some g.b) clock #[] clock)) ∧ RV ρ' I (.it m.next) (.pointer (some ⟨w.heap.size, 0, none⟩)) := by
  refine ⟨_, step_newObj (.mapIter (some g.b) clock #[] clock) hm hn ⟨some g.b, heap_alloc_new w _, g, ?_, rfl⟩, RV.it m.next ⟨w.heap.size, 0, 0, 0, 0⟩ (by simp [Nm.set])⟩
  exact Nm.set_ext hn _ _ hρ

/-! ### the next entry -/

theorem any_beq (l : List Nat) (n : Nat) : l.any (Nat.beq n) = l.contains n := by
  induction l with
  | nil => rfl
  | cons a l ih =>
    simp only [List.any_cons, ih, List.contains_cons]
    congr 1
    rw [Bool.eq_iff_iff, beq_true, beq_iff_eq]

theorem unseen_filter {ρ : Nm} {I : Im} (seen : List Nat) : ∀ {es : List (Nat × D × V)} {ces : List MapEntry}, EntsR ρ I es ces → EntsR ρ I (unseen seen es) (ces.filter fun e => !seen.contains e.born)
  | [], [], h => by simpa [unseen] using h
  | [], c :: ces, h => by simp [EntsR] at h
  | e :: es, [], h => by simp [EntsR] at h
  | e :: es, c :: ces, h => by
    obtain ⟨h1, h2⟩ := h.cons
    have ih := unseen_filter seen h2
    have hb : seen.any (Nat.beq e.1) = seen.contains c.born := by rw [h1.1, any_beq]
    simp only [unseen, hb, List.filter_cons]
    cases hs : seen.contains c.born with
    | true => simpa using ih
    | false =>
      simp only [cond_false, Bool.not_false, if_true]
      refine ⟨by simpa using ih.1, fun j e' c' he hc => ?_⟩
      cases j with
      | zero => simp at he hc; subst he; subst hc; exact h1
      | succ j => exact ih.2 j e' c' (by simpa using he) (by simpa using hc)

theorem EntsR.all {ρ : Nm} {I : Im} (p : Nat → Bool) : ∀ {es : List (Nat × D × V)} {ces : List MapEntry}, EntsR ρ I es ces → (es.all fun e => p e.1) = (ces.all fun c => p c.born)
  | [], [], h => rfl
  | [], c :: ces, h => by simp [EntsR] at h
  | e :: es, [], h => by simp [EntsR] at h
  | e :: es, c :: ces, h => by
    obtain ⟨h1, h2⟩ := h.cons
    simp only [List.all_cons, EntsR.all p h2, h1.1]

theorem EntsR.isEmpty {ρ : Nm} {I : Im} {es : List (Nat × D × V)} {ces : List MapEntry} (h : EntsR ρ I es ces) : es.isEmpty = ces.isEmpty := by
  cases es <;> cases ces <;> first | rfl | simp [EntsR] at h

/-- how answers are joined: what joins is one. -/
def Joins (J : Option R → Option R → Option R) : Prop := ∀ a b r, J a b = some r → a = some r ∧ b = some r

theorem anyC_sound {J : Option R → Option R → Option R} (hJ : Joins J) {f : Nat × D × V → Option R} {r : R} : ∀ {l : List (Nat × D × V)}, anyC J f l = some r → ∀ e, e ∈ l → f e = some r
  | [], h, e, he => by simp at he
  | [x], h, e, he => by simp at he; subst he; simpa [anyC] using h
  | x :: y :: l, h, e, he => by
    simp only [anyC] at h
    obtain ⟨h1, h2⟩ := hJ _ _ _ h
    rcases List.mem_cons.1 he with rfl | he
    · exact h1
    · exact anyC_sound hJ h2 e he

theorem RV.tup3 {ρ : Nm} {I : Im} {v u : V} {c d : Value} (b : Bool) (h : RV ρ I v c) (h' : RV ρ I u d) : RV ρ I (.tup [.d (.bool b), v, u]) (.tuple #[.bool b, c, d]) := by
  refine .tup _ _ rfl fun j x y e ey => ?_
  match j with
  | 0 => simp at e ey; subst e; subst ey; exact .d _ _ (.bool b)
  | 1 => simp at e ey; subst e; subst ey; exact h
  | 2 => simp at e ey; subst e; subst ey; exact h'
  | j + 3 => simp at e

theorem tup_false {ρ : Nm} {I : Im} (b : Bool) : RV ρ I (.tup [.d (.bool b)]) (.tuple #[.bool b]) := by
  refine .tup _ _ rfl fun j x y e ey => ?_
  match j with
  | 0 => simp at e ey; subst e; subst ey; exact .d _ _ (.bool b)
  | j + 1 => simp at e

theorem run_choose_next (n : Nat) (hn : 0 < n) (w : World) : ∃ i d, (choose (.mapNext n)).run P w = .ok i { w with drawn := d } ∧ i < n := by
  by_cases h : n ≤ 1
  · exact ⟨0, w.drawn, by simp [choose, Sem.run, Question.forced, h], hn⟩
  · exact ⟨w.tape w.drawn (.mapNext n) % n, w.drawn + 1, by simp [choose, Sem.run, Question.forced, h, Question.cut], Nat.mod_lt _ hn⟩

theorem MemR.drawn {ρ : Nm} {I : Im} {m : Mem} {w : World} (h : MemR ρ I m w) (d : Nat) : MemR ρ I m { w with drawn := d } :=
  ⟨fun n b hb => let ⟨g, h1, h2⟩ := h.blk n b hb; ⟨g, h1, h2.congr (ExtN.refl _) (ExtI.refl _) rfl fun _ => rfl⟩, h.inj, h.imm, h.dom, h.wf⟩

theorem StepR.drawn {ρ : Nm} {I : Im} {m : Mem} {w : World} (h : MemR ρ I m w) (d : Nat) : StepR ρ I m w ρ I m { w with drawn := d } :=
  ⟨⟨ExtN.refl _, ExtI.refl _, h.drawn d, Nat.le_refl _, fun _ _ _ => rfl, fun _ _ _ _ => rfl, fun _ h => .inl h, fun _ h => .inl h, rfl, rfl, rfl⟩, Nat.le_refl _, fun _ _ h => .inl h, fun _ _ h _ => h⟩

theorem nextC_sound {J : Option R → Option R → Option R} (hJ : Joins J) {m : Mem} {i : V} {k : V → Mem → Option R} {r : R} (h : nextC J m i k = some r) :
    ∀ ρ I (ci : Value) (ty : TypeId) (w : World), MemR ρ I m w → RV ρ I i ci →
      ∃ c w' v m', (Instr.next ci false ty).run P w = .ok c w' ∧ k v m' = some r ∧ RV ρ I v c ∧ StepR ρ I m w ρ I m' w' := by
  unfold nextC at h
  split at h
  · rename_i n
    split at h
    · rename_i since seen last hg
      intro ρ I ci ty w hm hi
      obtain ⟨g, q, hρ, rfl, hb, hq⟩ := iter_of hm (Mem.get_of_getW hg) hi
      simp only at hq; subst hq
      exact ⟨_, w, _, _, by simp [Instr.next, run_getObj_iter hb], h, tup_false false, .refl hm⟩
    · rename_i mn since seen last hg
      split at h
      · rename_i es clock hmg
        cases hcl : Nat.beq clock since with
        | false => simp [hcl] at h
        | true =>
          rw [hcl, cond_true] at h
          obtain rfl := beq_true.1 hcl
          intro ρ I ci ty w hm hi
          obtain ⟨g, q, hρ, rfl, hb, g', hρ', rfl⟩ := iter_of hm (Mem.get_of_getW hg) hi
          obtain ⟨g2, ces, hρ2, e2, hbm, he⟩ := map_of hm hmg (RV.mp mn g' hρ')
          obtain rfl : g2 = g' := by rw [hρ'] at hρ2; simpa using hρ2.symm
          have hu := unseen_filter seen he
          have hall : (es.all fun e => Nat.ble last e.1) = (ces.toList.all fun c => decide (c.born ≥ last)) := by
            rw [he.all (fun n => Nat.ble last n)]
            congr 1
            funext c
            rw [Bool.eq_iff_iff]
            simp
          have hemp := he.isEmpty
          -- the guard of the model
          have hguard : (seen.isEmpty || es.isEmpty || !(es.all fun e => Nat.ble last e.1)) = true →
              (!seen.toArray.isEmpty && !ces.isEmpty && ces.all fun c => decide (c.born ≥ last)) = false := by
            intro hx
            rw [hall, hemp] at hx
            simp only [Bool.or_eq_true, Bool.not_eq_true', List.isEmpty_iff] at hx
            rcases hx with (hx | hx) | hx
            · simp [hx]
            · have : ces = #[] := by simpa using hx
              simp [this]
            · rw [Array.all_toList] at hx
              simp [hx]
          split at h
          · rename_i hnil
            cases hc : (seen.isEmpty || es.isEmpty || !(es.all fun e => Nat.ble last e.1)) with
            | false => simp [hc] at h
            | true =>
              rw [hc, cond_true] at h
              have hl : ces.toList.filter (fun e => !seen.contains e.born) = [] := by
                rw [hnil] at hu
                have := hu.1
                simpa using this.symm
              have hl' : ces.filter (fun e => !seen.toArray.contains e.born) = #[] := by
                apply Array.toList_inj.1
                rw [Array.toList_filter]
                simpa using hl
              refine ⟨.tuple #[.bool false], w, _, _, ?_, h, tup_false false, .refl hm⟩
              have hg0 := hguard hc
              simp only [Instr.next, Sem.run_bind, run_getObj_iter hb, Result.andThen_ok, run_getObj_map hbm, hg0, hl']
              simp [Question.forced]
          · rename_i hne
            cases hc : (seen.isEmpty || !(es.all fun e => Nat.ble last e.1)) && (unseen seen es).all (fun e => Nat.blt e.1 clock) with
            | false => simp [hc] at h
            | true =>
              rw [hc, cond_true] at h
              rw [Bool.and_eq_true] at hc
              have hg0 := hguard (by rw [Bool.or_eq_true] at hc; rcases hc.1 with h | h <;> simp [h])
              have hold : ∀ c, c ∈ ces.toList.filter (fun e => !seen.contains e.born) → c.born < clock := by
                have := hc.2
                rw [hu.all (fun n => Nat.blt n clock)] at this
                rw [List.all_eq_true] at this
                intro c hm'
                have h := this c hm'
                simpa using h
              obtain ⟨L, hL⟩ : ∃ L : Array MapEntry, ces.filter (fun e => !seen.toArray.contains e.born) = L := ⟨_, rfl⟩
              have hLl : L.toList = ces.toList.filter (fun e => !seen.contains e.born) := by
                rw [← hL, Array.toList_filter]; simp
              rw [← hLl] at hold hu
              have hpos : 0 < L.size := by
                have := hu.1
                cases hes : unseen seen es with
                | nil => exact absurd hes hne
                | cons a l => rw [hes] at this; simp at this; omega
              have h1 : L.filter (fun e => decide (e.born < clock)) = L := by
                apply Array.filter_eq_self.2
                intro c hc
                simpa using hold c (by simpa using hc)
              have h2 : L.filter (fun e => decide (e.born ≥ clock)) = #[] := by
                apply Array.filter_eq_empty_iff.2
                intro c hc
                have := hold c (by simpa using hc)
                simp; omega
              have h3 : L.isEmpty = false := by
                cases he : L.isEmpty with
                | false => rfl
                | true => simp at he; subst he; simp at hpos
              obtain ⟨i, d, hch, hi⟩ := run_choose_next (P := P) L.size hpos w
              have hLi : L.toList[i]? = some L[i] := by simp [hi]
              have hui : i < (unseen seen es).length := by rw [hu.1]; simpa using hi
              have hk := anyC_sound hJ h _ (List.getElem_mem hui)
              obtain ⟨b1, b2, b3, b4⟩ := hu.2 i _ _ (List.getElem?_eq_getElem hui) hLi
              refine ⟨.tuple #[.bool true, L[i].key, L[i].val], _, _, _, ?_, hk, RV.tup3 true (.d _ _ b2) b3, (StepR.drawn hm d).trans
                (StepR.writeObj (w := { w with drawn := d }) (o' := .mapIter (some g2.b) clock (seen.toArray.push L[i].born) clock) (hm.drawn d) hg hρ hb rfl ⟨some g2.b, ?_, g2, hρ', rfl⟩)⟩
              · simp only [Instr.next, Sem.run_bind, run_getObj_iter hb, Result.andThen_ok, run_getObj_map hbm, hg0, hL, h1, h2, h3]
                have hset : ∀ o', (setObj g.b o').run P { w with drawn := d } = .ok () { w with heap := w.heap.setIfInBounds g.b o', drawn := d } := fun o' =>
                  run_setObj_any (w := { w with drawn := d }) hb rfl
                simp [-run_choose, hch, hi, hset]
              · rw [b1]
                have := heap_set_same (w := { w with drawn := d }) (b := g.b) (o' := .mapIter (some g2.b) clock (seen.toArray.push L[i].born) clock) hb
                simpa using this
      · simp at h
    · simp at h
  · simp at h

end Go.Ab
