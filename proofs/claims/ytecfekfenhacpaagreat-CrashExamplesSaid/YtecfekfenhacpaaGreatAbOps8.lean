/- Operations that make values out of values. -/
import Derived.Test.YtecfekfenhacpaaGreatAbOps7
namespace Go.Ab
open Go
set_option linter.unusedVariables false
set_option linter.unusedSimpArgs false
variable {R : Type} {P : Program}

theorem fits_cells {I : Im} {x : D} {c : Value} (h : RD I x c) (hx : x.isAgg = true) : ∃ cs arr, x = .agg cs ∧ c = .agg arr ∧ RD I (.agg cs) (.agg arr) := by
  cases x <;> simp [D.isAgg] at hx
  rename_i cs
  obtain ⟨arr, rfl, _⟩ := cr_of_rd h
  exact ⟨cs, arr, rfl, rfl, h⟩

theorem RV.ofD {ρ : Nm} {I : Im} {cs : List D} {arr : Array Value} (h : RD I (.agg cs) (.agg arr)) : RV ρ I (.agg (cs.map .d)) (.agg arr) := by
  cases h with
  | agg _ _ h1 h2 h3 =>
    refine .agg _ _ (by simpa using h1) (fun j x e => ?_) fun j x y e ey => ?_
    · simp only [List.getElem?_map, Option.map_eq_some_iff] at e
      obtain ⟨z, hz, rfl⟩ := e
      simp [V.isCell, h2 j z hz]
    · simp only [List.getElem?_map, Option.map_eq_some_iff] at e
      obtain ⟨z, hz, rfl⟩ := e
      exact .d _ _ (h3 j z y hz ey)

theorem allInfo_spec : ∀ {l : List Field}, allInfo P l = true → ∀ f, f ∈ l → ∃ i, P.info? f.type = some i
  | [], _, f, hf => by simp at hf
  | g :: l, h, f, hf => by
    simp only [allInfo, Bool.and_eq_true] at h
    rcases List.mem_cons.1 hf with rfl | hf
    · exact Option.isSome_iff_exists.1 h.1
    · exact allInfo_spec h.2 f hf

theorem run_places (fs : Array Field) (h : allInfo P fs.toList = true) (w : World) :
    (fs.mapM fun f => (do pure (f.offset, ← sizeOf f.type) : Sem (Nat × Nat))).run P w = .ok (fs.map fun f => (f.offset, P.cellsOf f.type)) w := by
  have key : ∀ (l : List Field), (∀ f, f ∈ l → ∃ i, P.info? f.type = some i) →
      (l.mapM fun f => (do pure (f.offset, ← sizeOf f.type) : Sem (Nat × Nat))).run P w = .ok (l.map fun f => (f.offset, P.cellsOf f.type)) w := by
    intro l
    induction l with
    | nil => intro _; simp
    | cons f l ih =>
      intro hl
      obtain ⟨i, hi⟩ := hl f (by simp)
      simp only [List.mapM_cons, Sem.run_bind, run_sizeOf w hi, Result.andThen_ok, Sem.run_pure, ih (fun g hg => hl g (by simp [hg]))]
      simp
  rw [Array.mapM_eq_mapM_toList]
  rw [Sem.run_map, key fs.toList (allInfo_spec h)]
  simp [← Array.toList_map]

theorem buildC_sound {t : TypeId} {ps : List (Nat × V)} {k : V → Option R} {r : R} (h : buildC P t ps k = some r) :
    ∃ v, k v = some r ∧ ∀ ρ I (cps : Array (Nat × Value)) (w : World), cps.toList.map (·.1) = ps.map (·.1) → RVs ρ I (ps.map (·.2)) (cps.toList.map (·.2)) →
      ∃ c, (Instr.build t cps).run P w = .ok c w ∧ RV ρ I v c := by
  unfold buildC at h
  split at h
  · rename_i z hz
    split at h
    · rename_i fs hu
      cases hb : (z.isAgg && allInfo P fs.toList) with
      | false => simp [hb] at h
      | true =>
        rw [hb, cond_true] at h
        rw [Bool.and_eq_true] at hb
        have hp : ∀ i off tk, fieldPlace P fs i = some (off, tk) → ((fs.map fun f => (f.offset, P.cellsOf f.type))[i]?) = some (off, tk.size) := by
          intro i off tk hi
          unfold fieldPlace at hi
          split at hi
          · rename_i f hf
            split at hi
            · rename_i tk' htk
              simp at hi; obtain ⟨rfl, rfl⟩ := hi
              simp [hf, (tkOf_spec htk).1]
            · simp at hi
          · simp at hi
        obtain ⟨v, hk, hv⟩ := layC_sound (cplace := fun i => (fs.map fun f => (f.offset, P.cellsOf f.type))[i]?) hp _ _ _ _ h
        refine ⟨v, hk, fun ρ I cps w h1 h2 => ?_⟩
        obtain ⟨c, hrun, hr⟩ := zeroD_sound hz
        obtain ⟨cs, arr, rfl, rfl, hr'⟩ := fits_cells (hr I) hb.1
        obtain ⟨arr', h5, h6⟩ := hv ρ I cps.toList arr h1 h2 (.ofD hr')
        refine ⟨.agg arr', ?_, h6⟩
        simp only [Instr.build, Sem.run_bind, hrun, run_underlying hu, Result.andThen_ok, Value.cells]
        rw [run_places fs hb.2 w]
        simp only [Result.andThen_ok, h5, Sem.run_pure]
    · rename_i len e hu
      split at h
      · rename_i tk htk
        cases hb : z.isAgg with
        | false => simp [hb] at h
        | true =>
          rw [hb, cond_true] at h
          obtain ⟨v, hk, hv⟩ := layC_sound (cplace := fun i => some (i * tk.size, tk.size)) (fun i off tk' hi => by simp at hi; obtain ⟨rfl, rfl⟩ := hi; rfl) _ _ _ _ h
          refine ⟨v, hk, fun ρ I cps w h1 h2 => ?_⟩
          obtain ⟨c, hrun, hr⟩ := zeroD_sound hz
          obtain ⟨cs, arr, rfl, rfl, hr'⟩ := fits_cells (hr I) hb
          obtain ⟨arr', h5, h6⟩ := hv ρ I cps.toList arr h1 h2 (.ofD hr')
          refine ⟨.agg arr', ?_, h6⟩
          simp only [Instr.build, Sem.run_bind, hrun, run_underlying hu, Result.andThen_ok, Value.cells, (tkOf_spec htk).2.2.2]
          simp [h5]
      · simp at h
    · simp at h
  · simp at h

theorem run_part {ρ : Nm} {I : Im} {t : TypeId} {tk : TK} (htk : tkOf P t = some tk) {arr : Array Value} {off : Nat} {u : V} (w : World)
    (h : LoadR ρ I tk (fun j => arr[j]?) off u) : ∃ c, (part t arr off).run P w = .ok c w ∧ RV ρ I u c := by
  obtain ⟨hs, _, hag, hsz⟩ := tkOf_spec htk
  cases tk with
  | agg sz =>
    obtain ⟨arr', h1, h2, h3⟩ := h
    refine ⟨.agg arr', ?_, h3⟩
    simp only [part, Sem.run_bind, hag, Result.andThen_ok, TK.isAggK, if_true, hsz, TK.size]
    have : arr.extract off (off + sz) = arr' := by
      apply Array.ext_getElem?
      intro j
      rw [Array.getElem?_extract]
      by_cases hj : j < sz
      · have h4 : arr[off + j]? = arr'[j]? := h2 j hj
        have hj' : j < arr'.size := by omega
        have : off + j < arr.size := by
          have : arr[off + j]? = some arr'[j] := by rw [h4]; simp [hj']
          exact (Array.getElem?_eq_some_iff.1 this).1
        rw [if_pos (by omega), h4]
      · rw [if_neg (by omega), Array.getElem?_eq_none (by omega)]
    simp [this]
  | _ =>
    obtain ⟨y, hy, hr⟩ := h
    exact ⟨y, by simp only [part, Sem.run_bind, hag, Result.andThen_ok, TK.isAggK, Bool.false_eq_true, if_false]; simp [hy], hr⟩

theorem loadV_part {t : TypeId} {tk : TK} (htk : tkOf P t = some tk) {v : V} {off : Nat} {k : V → Option R} {r : R} (h : loadV tk false v off k = some r) :
    ∃ u, k u = some r ∧ ∀ ρ I (arr : Array Value) (w : World), RV ρ I v (.agg arr) → ∃ c, (part t arr off).run P w = .ok c w ∧ RV ρ I u c := by
  obtain ⟨u, hk, hl⟩ := loadV_sound h
  refine ⟨u, hk, fun ρ I arr w hv => ?_⟩
  have hs : v.sto = true := by cases hv <;> rfl
  obtain ⟨hlen, hcell⟩ := hv.cells hs
  obtain ⟨_, hload⟩ := hl ρ I (fun j => arr[j]?) (by simp) (fun j u e => (hcell j u e).2) (fun j u e => (hcell j u e).1)
  exact run_part htk w hload

theorem isAgg_agg {ρ : Nm} {I : Im} {v : V} {c : Value} (h : RV ρ I v c) (hv : v.isAgg = true) : ∃ arr, c = .agg arr := by
  cases h with
  | d x c h => obtain ⟨cs, arr, _, rfl, _⟩ := fits_cells h hv; exact ⟨arr, rfl⟩
  | agg cs arr => exact ⟨arr, rfl⟩
  | _ => simp [V.isAgg] at hv

theorem nth_spec {α : Type} {l : List α} {i : Int} {x : α} (h : nth l i = some x) : 0 ≤ i ∧ l[i.toNat]? = some x ∧ i < (l.length : Int) := by
  unfold nth at h
  split at h
  · rename_i h0
    have := getElem?_range h
    exact ⟨h0, h, by omega⟩
  · simp at h

theorem indexC_sound {t : TypeId} {x ix : V} {k : V → Option R} {r : R} (h : indexC P t x ix k = some r) :
    ∃ v, k v = some r ∧ ∀ ρ I (cx ci : Value) (w : World), RV ρ I x cx → RV ρ I ix ci → ∃ c, (Instr.index t cx ci).run P w = .ok c w ∧ RV ρ I v c := by
  unfold indexC at h
  split at h
  · rename_i ik i
    split at h
    · rename_i hu
      split at h
      · rename_i s
        simp only [Option.bind_eq_some_iff] at h
        obtain ⟨b, hb, hk⟩ := h
        refine ⟨_, hk, fun ρ I cx ci w hx hi => ?_⟩
        cases hx with | d _ _ hx =>
        cases hx
        cases hi with | d _ _ hi =>
        cases hi
        obtain ⟨h0, hb, _⟩ := nth_spec hb
        refine ⟨_, ?_, .d _ _ (.int .u8 b.toNat)⟩
        have hg : (⟨s.toArray⟩ : ByteArray)[i.toNat]? = some b := by
          have hlt := getElem?_range hb
          have e : s[i.toNat] = b := by rw [List.getElem?_eq_getElem hlt] at hb; simpa using hb
          have hsz : i.toNat < (⟨s.toArray⟩ : ByteArray).size := by simpa [ByteArray.size] using hlt
          rw [getElem?_pos (⟨s.toArray⟩ : ByteArray) i.toNat hsz]
          simp [ByteArray.getElem_eq_getElem_data, e]
        simp [Instr.index, asIntOf, run_underlying hu, h0, hg]
      · simp at h
    · rename_i len e hu
      split at h
      · rename_i tk htk
        cases ha : x.isAgg with
        | false => simp [ha] at h
        | true =>
          rw [ha, cond_true] at h
          split at h
          · rename_i hi0
            obtain ⟨u, hk, hl⟩ := loadV_part htk h
            refine ⟨u, hk, fun ρ I cx ci w hx hi => ?_⟩
            obtain ⟨arr, rfl⟩ := isAgg_agg hx ha
            cases hi with | d _ _ hi =>
            cases hi
            obtain ⟨c, hc, hr⟩ := hl ρ I arr w hx
            refine ⟨c, ?_, hr⟩
            simp only [Instr.index, asIntOf, Sem.run_bind, Sem.run_pure, Result.andThen_ok, run_underlying hu]
            rw [Sem.run_ite, if_pos hi0]
            simp [(tkOf_spec htk).2.2.2, hc]
          · simp at h
      · simp at h
    · simp at h
  · simp at h

theorem fieldOf_spec {s : TypeId} {f : Nat} {t : TypeId} {o : Nat} (h : fieldOf P s f = some (t, o)) :
    ∃ fs fl, P.underlying s = some (.struct fs) ∧ fs[f]? = some fl ∧ fl.type = t ∧ fl.offset = o ∧ ∃ i, P.info? t = some i ∧ P.cellsOf t ≠ 0 := by
  unfold fieldOf at h
  split at h
  · rename_i fs hu
    split at h
    · rename_i x hx
      split at h
      · simp at h
      · rename_i hc
        simp at h; obtain ⟨rfl, rfl⟩ := h
        refine ⟨fs, x, hu, hx, rfl, rfl, ?_⟩
        cases hi : P.info? x.type with
        | none => simp [Program.cellsOf, hi] at hc
        | some i => exact ⟨i, rfl, hc⟩
    · simp at h
  · simp at h

theorem run_fieldAt {s : TypeId} {f : Nat} {t : TypeId} {o : Nat} (h : fieldOf P s f = some (t, o)) (b off : Nat) (w : World) :
    (Instr.fieldAt s (.pointer (some ⟨b, off, none⟩)) f).run P w = .ok (.pointer (some ⟨b, off + o, none⟩)) w := by
  obtain ⟨fs, fl, hu, hf, rfl, rfl, i, hi, hne⟩ := fieldOf_spec h
  simp [Instr.fieldAt, run_underlying hu, hf, Instr.sureAddr, Go.fieldPlace, run_sizeOf w hi, hne, add_none]

end Go.Ab
