/- Stores. -/
import Derived.Test.YtecfekfenhacpaaGreatAbOps8
namespace Go.Ab
open Go
set_option linter.unusedVariables false
set_option linter.unusedSimpArgs false
variable {R : Type} {P : Program}

theorem idx_inj {i i' j j' sz : Nat} (h : j < sz) (h' : j' < sz) (e : i * sz + j = i' * sz + j') : i = i' ∧ j = j' := by
  have h1 : (i * sz + j) / sz = i := by rw [Nat.mul_comm, Nat.mul_add_div (by omega), Nat.div_eq_of_lt h]; omega
  have h2 : (i' * sz + j') / sz = i' := by rw [Nat.mul_comm, Nat.mul_add_div (by omega), Nat.div_eq_of_lt h']; omega
  have : i = i' := by rw [← h1, ← h2, e]
  subst this
  exact ⟨rfl, by omega⟩

theorem mkAgg_spec (l : List V) : (mkAgg l).cells = l ∧ (mkAgg l).isAgg = true ∧ (mkAgg l).nc = l.length ∧ (mkAgg l).sto = true := by
  unfold mkAgg
  split
  · rename_i xs hxs
    obtain rfl := allD_map hxs
    exact ⟨rfl, rfl, by simp [V.nc, D.nc], rfl⟩
  · exact ⟨rfl, rfl, rfl, rfl⟩

theorem setMany_map {α β : Type} (f : α → β) : ∀ (ys : List α) (l : List α) (i : Nat), (setMany l i ys).map f = setMany (l.map f) i (ys.map f)
  | [], l, i => rfl
  | y :: ys, l, i => by simp [setMany, setMany_map f ys, List.map_set]

theorem setMany_all {α : Type} (l ys : List α) (h : ys.length = l.length) : setMany l 0 ys = ys := by
  apply List.ext_getElem?
  intro j
  rw [setMany_get _ _ _ _ (by omega)]
  split
  · simp
  · rename_i hj
    rw [List.getElem?_eq_none (by omega), List.getElem?_eq_none (by omega)]

theorem D.setCells_spec {x : D} {ek : EK} {off : Nat} {ys : List D} (hx : EOk ek x) (hy : ∀ (j : Nat) (u : D), ys[j]? = some u → u.isAgg = false) (hle : off + ys.length ≤ ek.sz) :
    EOk ek (x.setCells off ys) ∧ (x.setCells off ys).cells = setMany x.cells off ys := by
  obtain ⟨h1, h2⟩ := hx
  cases hxa : x.isAgg with
  | true =>
    cases x <;> simp [D.isAgg] at hxa
    rename_i cs
    simp only [D.nc] at h1
    exact ⟨⟨by simp [D.setCells, D.nc, setMany_length, h1], h2⟩, rfl⟩
  | false =>
    have hc := D.cells_of_notAgg hxa
    have hn : ek.sz = 1 := by rw [← h1, D.nc_cells, hc]; rfl
    have key : x.setCells off ys = one1 ys x := by cases x <;> first | rfl | (simp [D.isAgg] at hxa)
    rw [key, hc]
    match ys, hle, hy with
    | [], hle, hy => exact ⟨⟨h1, h2⟩, hc⟩
    | [z], hle, hy =>
      simp at hle
      have : off = 0 := by omega
      subst this
      have hz := hy 0 z rfl
      exact ⟨⟨by show z.nc = _; rw [D.nc_cells, D.cells_of_notAgg hz, hn]; rfl, by show z.isAgg = _; rw [hz, ← h2, hxa]⟩, by show z.cells = _; simp [setMany, D.cells_of_notAgg hz]⟩
    | _ :: _ :: _, hle, hy => simp at hle; omega

theorem V.cells_isCell {v : V} (h : v.isCell = true) : v.cells = [v] ∧ v.isAgg = false ∧ v.nc = 1 := by
  cases v <;> first | exact ⟨rfl, rfl, rfl⟩ | skip
  · rename_i x
    have hx : x.isAgg = false := by simpa [V.isCell] using h
    exact ⟨by simp [V.cells, D.cells_of_notAgg hx], hx, by simp [V.nc, D.nc_cells, D.cells_of_notAgg hx]⟩
  · simp [V.isCell] at h

theorem setV_spec {c v : V} {ek : EK} {off : Nat} (hc : VOk ek c) (hv : ∀ (j : Nat) (u : V), v.cells[j]? = some u → u.isCell = true) (hle : off + v.cells.length ≤ ek.sz) :
    VOk ek (setV c off v) ∧ (setV c off v).cells = setMany c.cells off v.cells := by
  obtain ⟨h1, h2⟩ := hc
  by_cases hdd : ∃ x y, c = .d x ∧ v = .d y
  · obtain ⟨x, y, rfl, rfl⟩ := hdd
    obtain ⟨h3, h4⟩ := D.setCells_spec (x := x) (ek := ek) (off := off) (ys := y.cells) ⟨h1, h2⟩ (fun j u e => by simpa [V.isCell] using hv j (.d u) (by simp [V.cells, e])) (by simpa [V.cells] using hle)
    refine ⟨h3, ?_⟩
    show (x.setCells off y.cells).cells.map V.d = _
    rw [h4, setMany_map]; rfl
  · by_cases hag : c.isAgg = true
    · have e : setV c off v = mkAgg (setMany c.cells off v.cells) := by
        cases c <;> simp [V.isAgg] at hag
        · rename_i x
          cases x <;> simp [D.isAgg] at hag
          cases v <;> first | rfl | (exact absurd ⟨_, _, rfl, rfl⟩ hdd)
        · cases v <;> rfl
      rw [e]
      obtain ⟨a1, a2, a3, a4⟩ := mkAgg_spec (setMany c.cells off v.cells)
      exact ⟨⟨by rw [a3, setMany_length, ← V.nc_cells, h1], by rw [a2, ← h2, hag]⟩, a1⟩
    · have hag : c.isAgg = false := by simpa using hag
      have hcc : c.cells = [c] := by
        cases c with
        | d x => simp [V.cells, D.cells_of_notAgg (show x.isAgg = false from hag)]
        | agg cs => simp [V.isAgg] at hag
        | _ => rfl
      have hn : ek.sz = 1 := by rw [← h1, V.nc_cells, hcc]; rfl
      have e : setV c off v = one1 v.cells c := by
        cases c with
        | d x => cases x <;> first | (cases v <;> first | rfl | (exact absurd ⟨_, _, rfl, rfl⟩ hdd)) | (simp [V.isAgg, D.isAgg] at hag)
        | agg cs => simp [V.isAgg] at hag
        | _ => cases v <;> rfl
      rw [e, hcc]
      generalize v.cells = ys at *
      match ys, hle, hv with
      | [], hle, hv => exact ⟨⟨h1, h2⟩, hcc⟩
      | [z], hle, hv =>
        simp at hle
        have : off = 0 := by omega
        subst this
        obtain ⟨b1, b2, b3⟩ := V.cells_isCell (hv 0 z rfl)
        exact ⟨⟨by show z.nc = _; rw [b3, hn], by show z.isAgg = _; rw [b2, ← h2, hag]⟩, by show z.cells = _; simp [setMany, b1]⟩
      | _ :: _ :: _, hle, hv => simp at hle; omega

theorem putV_spec {c v : V} {ek : EK} {tk : TK} {off : Nat} (hc : VOk ek c) (hf : v.fits tk = true) (hv : ∀ (j : Nat) (u : V), v.cells[j]? = some u → u.isCell = true) (hle : off + tk.size ≤ ek.sz) :
    VOk ek (bif fullAt ek tk off then v else setV c off v) ∧ (bif fullAt ek tk off then v else setV c off v).cells = setMany c.cells off v.cells := by
  obtain ⟨⟨f1, f2⟩, hs⟩ := V.fits_spec hf
  rw [TK.ek_eq] at f1 f2
  cases hfull : fullAt ek tk off with
  | true =>
    obtain ⟨sz, rfl, h1, h2, h3⟩ := fullAt_spec hfull
    subst h2
    simp only [cond_true]
    simp only [TK.size, TK.isAggK] at f1 f2
    exact ⟨⟨by rw [f1, h3], by rw [f2, h1]⟩, (setMany_all _ _ (by rw [← V.nc_cells, ← V.nc_cells, hc.1, f1, h3])).symm⟩
  | false =>
    simp only [cond_false]
    exact setV_spec hc hv (by rw [← V.nc_cells, f1]; exact hle)

theorem putD_spec {c v : D} {ek : EK} {tk : TK} {off : Nat} (hc : EOk ek c) (hf : v.fits tk = true) (hv : ∀ (j : Nat) (u : D), v.cells[j]? = some u → u.isAgg = false) (hle : off + tk.size ≤ ek.sz) :
    EOk ek (bif fullAt ek tk off then v else c.setCells off v.cells) ∧ (bif fullAt ek tk off then v else c.setCells off v.cells).cells = setMany c.cells off v.cells := by
  obtain ⟨f1, f2⟩ := D.fits_spec hf
  rw [TK.ek_eq] at f1 f2
  cases hfull : fullAt ek tk off with
  | true =>
    obtain ⟨sz, rfl, h1, h2, h3⟩ := fullAt_spec hfull
    subst h2
    simp only [cond_true]
    simp only [TK.size, TK.isAggK] at f1 f2
    exact ⟨⟨by rw [f1, h3], by rw [f2, h1]⟩, (setMany_all _ _ (by rw [← D.nc_cells, ← D.nc_cells, hc.1, f1, h3])).symm⟩
  | false =>
    simp only [cond_false]
    exact D.setCells_spec hc hv (by rw [← D.nc_cells, f1]; exact hle)

theorem run_storeVar {t : TypeId} {tk : TK} (htk : tkOf P t = some tk) {cv : Value} (hcs : cv.cells.size = tk.size) {b o : Nat} {w : World}
    (h1 : ∀ c, c ∈ cv.cells.toList → c.oneCell' = true) (h2 : ∀ j, j < tk.size → (∃ y, cellAt w b (o + j) = some y) ∧ unfrozen w b (o + j)) :
    ∃ w', (Instr.storeAt t (.pointer (some ⟨b, o, none⟩)) cv).run P w = .ok () w' ∧ WroteR w w' b o cv.cells.toList := by
  obtain ⟨w', hr, hw⟩ := run_storeCells (P := P) (b := b) (o := o) cv.cells.toList 0 w h1 (fun j hj => h2 j (by simpa [hcs] using hj))
  refine ⟨w', ?_, hw⟩
  simp only [Instr.storeAt, Instr.sureAddr, Sem.run_bind, Sem.run_pure, Result.andThen_ok, storeVar, (tkOf_spec htk).2.2.2]
  rw [if_neg (by simp [hcs])]
  simp [hr]

/-- the cells of a whole after some of them were written. -/
theorem wrote_cells {ρ : Nm} {I : Im} {w w' : World} {b o off : Nat} {c v : V} {cv : Value} (hw : WroteR w w' b (o + off) cv.cells.toList) (hv : RV ρ I v cv) (hs : v.sto = true) (hle : off + v.cells.length ≤ c.cells.length)
    (hc : ∀ (j : Nat) (x : V), c.cells[j]? = some x → x.isCell = true ∧ ∃ y, cellAt w b (o + j) = some y ∧ RV ρ I x y) :
    ∀ (j : Nat) (x : V), (setMany c.cells off v.cells)[j]? = some x → x.isCell = true ∧ ∃ y, cellAt w' b (o + j) = some y ∧ RV ρ I x y := by
  intro j x e
  obtain ⟨hlen, hcell⟩ := hv.cells hs
  rw [setMany_get _ _ _ _ hle] at e
  split at e
  · rename_i hj
    obtain ⟨h1, y, hy, hr⟩ := hcell _ x e
    refine ⟨h1, y, ?_, hr⟩
    rw [hw.cell, if_pos (by simp [← hlen]; omega)]
    rw [show o + j - (o + off) = j - off by omega]
    simpa using hy
  · rename_i hj
    obtain ⟨h1, y, hy, hr⟩ := hc j x e
    refine ⟨h1, y, ?_, hr⟩
    rw [hw.cell, if_neg (by simp [← hlen]; omega)]
    exact hy

theorem wrote_cellsD {I : Im} {w w' : World} {b o off : Nat} {c v : D} {cv : Value} (hw : WroteR w w' b (o + off) cv.cells.toList) (hv : RD I v cv) (hle : off + v.cells.length ≤ c.cells.length)
    (hc : ∀ (j : Nat) (x : D), c.cells[j]? = some x → x.isAgg = false ∧ ∃ y, cellAt w b (o + j) = some y ∧ RD I x y) :
    ∀ (j : Nat) (x : D), (setMany c.cells off v.cells)[j]? = some x → x.isAgg = false ∧ ∃ y, cellAt w' b (o + j) = some y ∧ RD I x y := by
  intro j x e
  obtain ⟨hlen, hcell⟩ := hv.cells
  rw [setMany_get _ _ _ _ hle] at e
  split at e
  · rename_i hj
    obtain ⟨h1, y, hy, hr⟩ := hcell _ x e
    refine ⟨h1, y, ?_, hr⟩
    rw [hw.cell, if_pos (by simp [← hlen]; omega)]
    rw [show o + j - (o + off) = j - off by omega]
    simpa using hy
  · rename_i hj
    obtain ⟨h1, y, hy, hr⟩ := hc j x e
    refine ⟨h1, y, ?_, hr⟩
    rw [hw.cell, if_neg (by simp [← hlen]; omega)]
    exact hy

theorem oneCells {ρ : Nm} {I : Im} {v : V} {cv : Value} (hv : RV ρ I v cv) (hs : v.sto = true) : ∀ c, c ∈ cv.cells.toList → c.oneCell' = true := by
  intro c hc
  obtain ⟨hlen, hcell⟩ := hv.cells hs
  obtain ⟨j, hj, e⟩ := List.getElem_of_mem hc
  have hj' : j < v.cells.length := by simpa [hlen] using hj
  obtain ⟨h1, y, hy, hr⟩ := hcell j v.cells[j] (by simp [hj'])
  have : y = c := by
    have h3 : cv.cells.toList[j]? = some c := by rw [List.getElem?_eq_getElem hj, e]
    rw [Array.getElem?_toList, hy] at h3
    simpa using h3
  subst this
  exact (hr.notAgg h1).2.2

theorem fits_size {ρ : Nm} {I : Im} {v : V} {cv : Value} {tk : TK} (hv : RV ρ I v cv) (hf : v.fits tk = true) : v.sto = true ∧ v.cells.length = tk.size ∧ cv.cells.size = tk.size := by
  obtain ⟨⟨f1, f2⟩, hs⟩ := V.fits_spec hf
  rw [TK.ek_eq] at f1
  obtain ⟨hlen, _⟩ := hv.cells hs
  have : v.cells.length = tk.size := by rw [← V.nc_cells, f1]
  exact ⟨hs, this, by omega⟩

theorem storeC_sound {t : TypeId} {m : Mem} {x v : V} {k : Mem → Option R} {r : R} (h : storeC P t m x v k = some r) :
    ∃ m', k m' = some r ∧ ∀ ρ I (ca cv : Value) (w : World), MemR ρ I m w → RV ρ I x ca → RV ρ I v cv → ∃ w', (Instr.storeAt t ca cv).run P w = .ok () w' ∧ StepR ρ I m w ρ I m' w' := by
  unfold storeC at h
  split at h
  · rename_i tk htk
    cases hf : v.fits tk with
    | false => simp [hf] at h
    | true =>
      rw [hf, cond_true] at h
      split at h
      · rename_i n i off
        split at h
        · rename_i ek c hg
          cases hi : Nat.beq i 0 with
          | false => simp [hi] at h
          | true =>
            rw [hi, cond_true] at h
            obtain rfl := beq_true.1 hi
            split at h
            · rename_i hle
              refine ⟨_, h, fun ρ I ca cv w hm ha hv => ?_⟩
              obtain ⟨g, hρ, h1, h2, h3, h5, h6, h7⟩ := hm.blk n _ (Mem.get_of_getW hg)
              cases ha with | ptr _ _ _ g' hg' =>
              obtain rfl : g' = g := by rw [hρ] at hg'; simpa using hg'.symm
              obtain ⟨hs, hvl, hcs⟩ := fits_size hv hf
              have hcl : c.cells.length = ek.sz := by rw [← V.nc_cells, h3.1]
              have hvc := (hv.cells hs).2
              obtain ⟨w', hr, hw⟩ := run_storeVar htk hcs (b := g'.b) (o := 0 + off) (w := w) (oneCells hv hs) (fun j hj => by
                refine ⟨?_, h6 _ (by omega)⟩
                obtain ⟨_, y, hy, _⟩ := h5 (0 + off + j) c.cells[0 + off + j] (by simp [show 0 + off + j < c.cells.length by omega])
                exact ⟨y, hy⟩)
              refine ⟨w', by simpa [h1] using hr, StepR.write hm hg hρ hw.other hw.size hw.os hw.out hw.tape (fun j x hx => by rw [h7] at hx; simp at hx) ?_⟩
              obtain ⟨p1, p2⟩ := putV_spec h3 hf (fun j u e => (hvc j u e).1) hle
              refine ⟨h1, h2, p1, fun j u e => ?_, fun j hj => (hw.frz j).2 (h6 j hj), h7⟩
              rw [p2] at e
              have := wrote_cells hw hv hs (by omega) (fun j x e => by simpa using h5 j x e) j u e
              simpa using this
            · simp at h
        · rename_i ek rw_ cap hg
          split at h
          · rename_i hle
            -- what is common to rows
            have row : ∀ {r' : Row}, i < rw_.len → r'.len = rw_.len →
                (∀ ρ I (cv : Value) (w w' : World) (g : Gh), RV ρ I v cv → g.sz = ek.sz → WroteR w w' g.b (g.o + (i * g.sz + off)) cv.cells.toList → RowR ρ I w g ek rw_ → RowR ρ I w' g ek r') →
                ∀ ρ I (ca cv : Value) (w : World), MemR ρ I m w → RV ρ I (.ptr n i off) ca → RV ρ I v cv → ∃ w', (Instr.storeAt t ca cv).run P w = .ok () w' ∧ StepR ρ I m w ρ I (m.set n (.arr ek r' cap false)) w' := by
              intro r' hi hlen hrow ρ I ca cv w hm ha hv
              obtain ⟨g, hρ, h1, h2, h3, h4, h5, h6, h7, h8⟩ := hm.blk n _ (Mem.get_of_getW hg)
              cases ha with | ptr _ _ _ g' hg' =>
              obtain rfl : g' = g := by rw [hρ] at hg'; simpa using hg'.symm
              obtain ⟨hs, hvl, hcs⟩ := fits_size hv hf
              have hin : ∀ j, j < tk.size → i * g'.sz + off + j < g'.cap * ek.sz := by
                intro j hj
                rw [h1]
                have : (i + 1) * ek.sz ≤ g'.cap * ek.sz := Nat.mul_le_mul_right _ (by omega)
                rw [Nat.succ_mul] at this
                omega
              obtain ⟨w', hr, hw⟩ := run_storeVar htk hcs (b := g'.b) (o := g'.o + (i * g'.sz + off)) (w := w) (oneCells hv hs) (fun j hj => by
                have := h5 _ (hin j hj)
                rw [show g'.o + (i * g'.sz + off) + j = g'.o + (i * g'.sz + off + j) by omega]
                exact this)
              refine ⟨w', hr, StepR.write hm hg hρ hw.other hw.size hw.os hw.out hw.tape (fun j x hx => ?_) ?_⟩
              · rw [hw.cell, if_neg ?_]
                · exact hm.imm _ _ _ hx
                · intro hj
                  rw [h7 rfl j (by omega)] at hx; simp at hx
              · refine ⟨h1, by rw [h2, hlen], h3, h4, fun j hj => ?_, hrow ρ I cv w w' g' hv h1 hw h6, h7, h8⟩
                obtain ⟨⟨y, hy⟩, hu⟩ := h5 j hj
                refine ⟨?_, (hw.frz _).2 hu⟩
                rw [hw.cell]
                split
                · rename_i hj'
                  have : g'.o + j - (g'.o + (i * g'.sz + off)) < cv.cells.toList.length := by omega
                  exact ⟨_, by rw [List.getElem?_eq_getElem this]⟩
                · exact ⟨y, hy⟩
            split at h
            · rename_i ik l
              split at h
              · rename_i jk x
                split at h
                · rename_i hik
                  subst hik
                  split at h
                  · rename_i hi
                    refine ⟨_, h, row hi (by simp [Row.len]) ?_⟩
                    intro ρ I cv w w' g hv hsz hw ⟨hek, hcell⟩
                    cases hv with | d _ _ hv =>
                    cases hv
                    subst hek
                    simp only [Value.cells, List.length_singleton] at hw
                    have hts : tk.size = 1 := by
                      have := (fits_size (ρ := ρ) (I := I) (.d _ _ (.int ik x)) hf).2.1
                      simpa [V.cells, D.cells] using this.symm
                    simp only [hts] at hle
                    have ho : off = 0 := by simp at hle; omega
                    subst ho
                    refine ⟨rfl, fun j y e => ?_⟩
                    rw [hw.cell]
                    simp only [hsz] at *
                    rw [List.getElem?_set] at e
                    split at e
                    · rename_i hij
                      subst hij
                      rw [if_pos (by simp)]
                      simp [hi] at e; subst e
                      simp
                    · rename_i hij
                      rw [if_neg (by simp; omega)]
                      exact hcell j y e
                  · simp at h
                · simp at h
              · simp at h
            · rename_i l
              split at h
              · rename_i y
                simp only [Option.bind_eq_some_iff] at h
                obtain ⟨e, he, h⟩ := h
                refine ⟨_, h, row (getElem?_range he) (by simp [Row.len]) ?_⟩
                intro ρ I cv w w' g hv hsz hw hrow
                obtain ⟨hs, hvl, hcs⟩ := fits_size hv hf
                cases hv with | d _ _ hv =>
                have hvc := hv.cells.2
                obtain ⟨hok, hcells⟩ := hrow i e he
                have hvl' : y.cells.length = tk.size := by simpa [V.cells] using hvl
                obtain ⟨p1, p2⟩ := putD_spec (off := off) hok hf (fun j u e => (hvc j u e).1) hle
                intro i' e' he'
                rw [List.getElem?_set] at he'
                split at he'
                · rename_i hii
                  subst hii
                  simp [getElem?_range he] at he'
                  subst he'
                  refine ⟨p1, fun j x ex => ?_⟩
                  rw [p2] at ex
                  have := wrote_cellsD (o := g.o + i * g.sz) (by rw [← elem_off]; exact hw) hv (by rw [hvl', ← D.nc_cells, hok.1]; exact hle) (fun j x e => by
                    have := hcells j x e
                    rw [hsz, ← elem_off]; exact this) j x ex
                  rw [← hsz, elem_off]; exact this
                · rename_i hii
                  obtain ⟨q1, q2⟩ := hrow i' e' he'
                  refine ⟨q1, fun j x ex => ?_⟩
                  obtain ⟨hx, y', hy', hr'⟩ := q2 j x ex
                  refine ⟨hx, y', ?_, hr'⟩
                  rw [hw.cell, if_neg ?_]
                  · exact hy'
                  · intro hin
                    simp only [Array.length_toList, hcs, hsz] at hin
                    have hj : j < ek.sz := by rw [← q1.1, D.nc_cells]; exact getElem?_range ex
                    have : ∃ d, d < ek.sz ∧ i' * ek.sz + j = i * ek.sz + d := ⟨i' * ek.sz + j - i * ek.sz, by omega, by omega⟩
                    obtain ⟨d, hd, ed⟩ := this
                    exact hii (idx_inj hj hd ed).1.symm
              · rename_i v' hnd
                split at h
                · rename_i e he
                  have hlen : ∀ u, ((dsV l).set i u).length = l.length := fun u => by simp [dsV]
                  refine ⟨_, h, row (by have := getElem?_range he; simpa [dsV, Row.len] using this) (by simp [Row.len, dsV]) ?_⟩
                  intro ρ I cv w w' g hv hsz hw hrow
                  obtain ⟨hs, hvl, hcs⟩ := fits_size hv hf
                  have hvc := (hv.cells hs).2
                  have hrow' : ∀ (i : Nat) (e : V), (dsV l)[i]? = some e → VOk ek e ∧ ∀ (j : Nat) (x : V), e.cells[j]? = some x → x.isCell = true ∧ ∃ y, cellAt w g.b (g.o + (i * ek.sz + j)) = some y ∧ RV ρ I x y := by
                    intro i e he
                    simp only [dsV, List.getElem?_map, Option.map_eq_some_iff] at he
                    obtain ⟨x, hx, rfl⟩ := he
                    obtain ⟨a1, a2⟩ := hrow i x hx
                    refine ⟨a1, fun j u eu => ?_⟩
                    simp only [V.cells, List.getElem?_map, Option.map_eq_some_iff] at eu
                    obtain ⟨z, hz, rfl⟩ := eu
                    obtain ⟨b1, y, b2, b3⟩ := a2 j z hz
                    exact ⟨by simp [V.isCell, b1], y, b2, .d _ _ b3⟩
                  obtain ⟨hok, hcells⟩ := hrow' i e he
                  obtain ⟨p1, p2⟩ := putV_spec (off := off) hok hf (fun j u e => (hvc j u e).1) hle
                  intro i' e' he'
                  rw [List.getElem?_set] at he'
                  split at he'
                  · rename_i hii
                    subst hii
                    simp [getElem?_range he] at he'
                    subst he'
                    refine ⟨p1, fun j x ex => ?_⟩
                    rw [p2] at ex
                    have := wrote_cells (o := g.o + i * g.sz) (by rw [← elem_off]; exact hw) hv hs (by rw [hvl, ← V.nc_cells, hok.1]; exact hle) (fun j x e => by
                      have := hcells j x e
                      rw [hsz, ← elem_off]; exact this) j x ex
                    rw [← hsz, elem_off]; exact this
                  · rename_i hii
                    obtain ⟨q1, q2⟩ := hrow' i' e' he'
                    refine ⟨q1, fun j x ex => ?_⟩
                    obtain ⟨hx, y', hy', hr'⟩ := q2 j x ex
                    refine ⟨hx, y', ?_, hr'⟩
                    rw [hw.cell, if_neg ?_]
                    · exact hy'
                    · intro hin
                      simp only [Array.length_toList, hcs, hsz] at hin
                      have hj : j < ek.sz := by rw [← q1.1, V.nc_cells]; exact getElem?_range ex
                      have : ∃ d, d < ek.sz ∧ i' * ek.sz + j = i * ek.sz + d := ⟨i' * ek.sz + j - i * ek.sz, by omega, by omega⟩
                      obtain ⟨d, hd, ed⟩ := this
                      exact hii (idx_inj hj hd ed).1.symm
                · simp at h
            · rename_i l
              split at h
              · rename_i e he
                refine ⟨_, h, row (getElem?_range he) (by simp [Row.len]) ?_⟩
                intro ρ I cv w w' g hv hsz hw hrow
                obtain ⟨hs, hvl, hcs⟩ := fits_size hv hf
                have hvc := (hv.cells hs).2
                obtain ⟨hok, hcells⟩ := hrow i e he
                obtain ⟨p1, p2⟩ := putV_spec (off := off) hok hf (fun j u e => (hvc j u e).1) hle
                intro i' e' he'
                rw [List.getElem?_set] at he'
                split at he'
                · rename_i hii
                  subst hii
                  simp [getElem?_range he] at he'
                  subst he'
                  refine ⟨p1, fun j x ex => ?_⟩
                  rw [p2] at ex
                  have := wrote_cells (o := g.o + i * g.sz) (by rw [← elem_off]; exact hw) hv hs (by rw [hvl, ← V.nc_cells, hok.1]; exact hle) (fun j x e => by
                    have := hcells j x e
                    rw [hsz, ← elem_off]; exact this) j x ex
                  rw [← hsz, elem_off]; exact this
                · rename_i hii
                  obtain ⟨q1, q2⟩ := hrow i' e' he'
                  refine ⟨q1, fun j x ex => ?_⟩
                  obtain ⟨hx, y', hy', hr'⟩ := q2 j x ex
                  refine ⟨hx, y', ?_, hr'⟩
                  rw [hw.cell, if_neg ?_]
                  · exact hy'
                  · intro hin
                    simp only [Array.length_toList, hcs, hsz] at hin
                    have hj : j < ek.sz := by rw [← q1.1, V.nc_cells]; exact getElem?_range ex
                    have : ∃ d, d < ek.sz ∧ i' * ek.sz + j = i * ek.sz + d := ⟨i' * ek.sz + j - i * ek.sz, by omega, by omega⟩
                    obtain ⟨d, hd, ed⟩ := this
                    exact hii (idx_inj hj hd ed).1.symm
              · simp at h
          · simp at h
        · simp at h
      · simp at h
  · simp at h

end Go.Ab
