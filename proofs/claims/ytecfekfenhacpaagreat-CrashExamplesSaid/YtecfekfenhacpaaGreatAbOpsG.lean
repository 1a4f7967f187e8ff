/- buildSlice, len, min, max, type assertions. -/
import Derived.Test.YtecfekfenhacpaaGreatAbOpsF
import Derived.Laws.Small
namespace Go.Ab
open Go
set_option linter.unusedVariables false
set_option linter.unusedSimpArgs false
variable {R : Type} {P : Program}

theorem fold_size (off : Nat) : ∀ (l : List (Value × Nat)) (ar : Array Value), (l.foldl (fun cs (x : Value × Nat) => cs.setIfInBounds (off + x.2) x.1) ar).size = ar.size
  | [], ar => rfl
  | x :: l, ar => by simp [fold_size off l]

theorem fold_get (off : Nat) : ∀ (l : List Value) (s : Nat) (ar : Array Value) (j : Nat), off + s + l.length ≤ ar.size →
    ((l.zipIdx s).foldl (fun cs (x : Value × Nat) => cs.setIfInBounds (off + x.2) x.1) ar)[j]? = if off + s ≤ j ∧ j < off + s + l.length then l[j - (off + s)]? else ar[j]?
  | [], s, ar, j, _ => by simp; omega
  | x :: l, s, ar, j, hj => by
    simp only [List.zipIdx_cons, List.foldl_cons]
    simp only [List.length_cons] at hj
    rw [fold_get off l (s + 1) _ j (by simp; omega)]
    by_cases hjs : j = off + s
    · subst hjs
      rw [if_neg (by omega), if_pos (by simp)]
      have : off + s < ar.size := by omega
      simp [this]
    · by_cases h2 : off + (s + 1) ≤ j ∧ j < off + (s + 1) + l.length
      · rw [if_pos h2, if_pos (by simp; omega)]
        have : j - (off + s) = (j - (off + (s + 1))) + 1 := by omega
        rw [this]; simp
      · rw [if_neg h2, if_neg (by simp; omega)]
        rw [Array.getElem?_setIfInBounds_ne (by omega)]

theorem fillElems_sound {tk : TK} : ∀ {ps : List (Nat × V)} {l l' : List V}, fillElems tk ps l = some l' → ∀ {ρ I} {cps : List (Nat × Value)} {arr : Array Value},
    cps.map (·.1) = ps.map (·.1) → RVs ρ I (ps.map (·.2)) (cps.map (·.2)) → LF (fun j => arr[j]?) tk.ek.sz (vsS ρ I tk.ek) l → arr.size = l.length * tk.ek.sz →
    ∃ arr', Instr.fill (fun i => some (i * tk.size, tk.size)) arr cps = some arr' ∧ LF (fun j => arr'[j]?) tk.ek.sz (vsS ρ I tk.ek) l' ∧ arr'.size = arr.size ∧ l'.length = l.length
  | [], l, l', h, ρ, I, cps, arr, h1, h2, h3, h4 => by
    simp [fillElems] at h; subst h
    cases cps with
    | nil => exact ⟨arr, rfl, h3, rfl, rfl⟩
    | cons => simp at h1
  | (i, v) :: ps, l, l', h, ρ, I, cps, arr, h1, h2, h3, h4 => by
    simp only [fillElems] at h
    cases hf : v.fits tk with
    | false => simp [hf] at h
    | true =>
      rw [hf, cond_true] at h
      split at h
      · rename_i hi
        cases cps with
        | nil => simp at h1
        | cons cp cps =>
          obtain ⟨ci, cv⟩ := cp
          simp only [List.map_cons, List.cons.injEq] at h1
          obtain ⟨rfl, h1⟩ := h1
          simp only [List.map_cons] at h2
          obtain ⟨_, _, e, hv, h2⟩ := h2.cons_inv
          simp only [List.cons.injEq] at e
          obtain ⟨rfl, rfl⟩ := e
          have hek : tk.ek.sz = tk.size := by rw [TK.ek_eq]
          obtain ⟨hs, hvl, hcs⟩ := fits_size hv hf
          obtain ⟨hok, _⟩ := V.fits_spec hf
          have hvc := (hv.cells hs).2
          have hmul : (ci + 1) * tk.size ≤ l.length * tk.size := Nat.mul_le_mul_right _ hi
          rw [Nat.add_mul, Nat.one_mul] at hmul
          rw [hek] at h4
          let arr1 := cv.cells.toList.zipIdx.foldl (fun cs (x : Value × Nat) => cs.setIfInBounds (ci * tk.size + x.2) x.1) arr
          have e1 : arr1 = cv.cells.zipIdx.foldl (fun cs (x : Value × Nat) => cs.setIfInBounds (ci * tk.size + x.2) x.1) arr := by
            simp only [arr1]
            rw [← Array.foldl_toList, Array.toList_zipIdx]
          have hget : ∀ j, arr1[j]? = if ci * tk.size ≤ j ∧ j < ci * tk.size + tk.size then cv.cells[j - ci * tk.size]? else arr[j]? := fun j => by
            have := fold_get (ci * tk.size) cv.cells.toList 0 arr j (by simp [hcs]; omega)
            simpa [hcs] using this
          have hlf : LF (fun j => arr1[j]?) tk.ek.sz (vsS ρ I tk.ek) (l.set ci v) := by
            intro i e he
            rw [List.getElem?_set] at he
            split at he
            · rename_i hii
              subst hii
              simp [hi] at he; subst he
              refine ⟨hok, fun j x ex => ?_⟩
              obtain ⟨a1, y, a2, a3⟩ := hvc j x ex
              have hj : j < tk.size := by rw [← hvl]; exact getElem?_range ex
              refine ⟨a1, y, ?_, a3⟩
              show arr1[ci * tk.ek.sz + j]? = _
              rw [hek, hget, if_pos (by omega), show ci * tk.size + j - ci * tk.size = j by omega]; exact a2
            · rename_i hii
              obtain ⟨q1, q2⟩ := h3 i e he
              refine ⟨q1, fun j x ex => ?_⟩
              obtain ⟨a1, y, a2, a3⟩ := q2 j x ex
              refine ⟨a1, y, ?_, a3⟩
              have hj : j < tk.size := by rw [← hek, ← q1.1, V.nc_cells]; exact getElem?_range ex
              show arr1[i * tk.ek.sz + j]? = _
              rw [hek, hget, if_neg ?_]
              · rw [← hek]; exact a2
              · intro hin
                have : ∃ d, d < tk.size ∧ i * tk.size + j = ci * tk.size + d := ⟨i * tk.size + j - ci * tk.size, by omega, by omega⟩
                obtain ⟨d, hd, ed⟩ := this
                exact hii (idx_inj hj hd ed).1.symm
          obtain ⟨arr', f1, f2, f3, f4⟩ := fillElems_sound h (cps := cps) (arr := arr1) h1 h2 hlf (by simp only [arr1]; rw [fold_size, h4, List.length_set, hek])
          refine ⟨arr', ?_, f2, by rw [f3]; exact fold_size _ _ _, by rw [f4, List.length_set]⟩
          simp only [Instr.fill]
          rw [if_neg (by simp only [Bool.or_eq_true, decide_eq_true_eq, not_or]; constructor; · simp [hcs]
                         · rw [hcs, h4]; omega)]
          rw [← e1]; exact f1
      · simp at h

theorem buildSliceC_sound {t : TypeId} {len : Nat} {ps : List (Nat × V)} {m : Mem} {k : V → Mem → Option R} {r : R} (h : buildSliceC P t len ps m k = some r) :
    ∃ v m', k v m' = some r ∧ ∀ ρ I (cps : Array (Nat × Value)) (w : World), MemR ρ I m w → ρ m.next = none → cps.toList.map (·.1) = ps.map (·.1) → RVs ρ I (ps.map (·.2)) (cps.toList.map (·.2)) →
      ∃ c w' ρ', (Instr.buildSlice t len cps).run P w = .ok c w' ∧ RV ρ' I v c ∧ StepR ρ I m w ρ' I m' w' := by
  unfold buildSliceC at h
  split at h
  · rename_i e hu
    split at h
    · rename_i tk z htk hz
      cases hf : z.fits tk with
      | false => simp [hf] at h
      | true =>
        rw [hf, cond_true] at h
        split at h
        · rename_i hroom
          split at h
          · rename_i l hl
            split at h
            · rename_i rw_ hr
              refine ⟨_, _, h, fun ρ I cps w hm hn h1 h2 => ?_⟩
              obtain ⟨cz, hrun, hrz⟩ := zeroD_sound hz
              have hek : tk.ek.sz = tk.size := by rw [TK.ek_eq]
              have hsz := (tkOf_spec htk).2.2.2
              obtain ⟨arr', f1, f2, f3, f4⟩ := fillElems_sound hl (cps := cps.toList) (arr := madeCells cz.cells (len * tk.size)) h1 h2
                (LF.made (hrz I) hf len (len * tk.size) (by rw [hek]; exact Nat.le_refl _)) (by rw [size_madeCells, List.length_replicate, hek])
              rw [size_madeCells] at f3
              rw [List.length_replicate] at f4
              obtain ⟨l1, l2⟩ := rowOf_spec hr f2
              obtain ⟨ρ', hst, hv⟩ := step_row (ek := tk.ek) (r := rw_) (cap := len) (co := some len) (frz := false) (C := arr') (fr := (0, 0)) (w0 := w) e hm hn rfl rfl rfl rfl l2 (by omega)
                (by rw [f3, hek]; exact Nat.le_refl _) (by simp) (by simp)
              rw [l1, f4] at hv
              refine ⟨_, _, ρ', ?_, hv, hst⟩
              have hroom' : ¬ (16777216 < len * tk.size) := by omega
              by_cases h0 : len * tk.size = 0
              · have e0 : madeCells cz.cells (len * tk.size) = #[] := by rw [h0]; simp [madeCells, Array.range_zero']
                rw [e0] at f1
                simp [Instr.buildSlice, run_underlying hu, hsz, h0, f1, newRow, Array.range_zero']
              · have e0 : (Array.range (len * tk.size)).map (cz.cells[· % cz.cells.size]!) = madeCells cz.cells (len * tk.size) := rfl
                simp only [Instr.buildSlice, Sem.run_bind, run_underlying hu, hsz, Result.andThen_ok]
                rw [Sem.run_ite, if_neg (by omega)]
                simp [h0, hrun, e0, f1, newRow]
            · simp at h
          · simp at h
        · simp at h
    · simp at h
  · simp at h

end Go.Ab
