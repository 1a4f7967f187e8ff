/- New variables, stores. -/
import Derived.Test.YtecfekfenhacpaaGreatAbOps6
namespace Go.Ab
open Go
set_option linter.unusedVariables false
set_option linter.unusedSimpArgs false
variable {R : Type} {P : Program}

theorem TK.ek_eq (tk : TK) : tk.ek = ⟨tk.isAggK, tk.size⟩ := by cases tk <;> rfl

theorem D.fits_spec {tk : TK} {x : D} (h : x.fits tk = true) : EOk tk.ek x := by
  rw [TK.ek_eq]
  cases x <;> cases tk <;> simp [D.fits] at h <;> exact ⟨by simp [D.nc, TK.size, h], rfl⟩

theorem V.fits_spec {tk : TK} {v : V} (h : v.fits tk = true) : VOk tk.ek v ∧ v.sto = true := by
  rw [TK.ek_eq]
  cases v with
  | d x =>
    obtain ⟨h1, h2⟩ := D.fits_spec (show x.fits tk = true from h)
    rw [TK.ek_eq] at h1 h2
    exact ⟨⟨h1, h2⟩, rfl⟩
  | _ => cases tk <;> simp [V.fits] at h <;> exact ⟨⟨by simp [V.nc, TK.size, h], rfl⟩, rfl⟩

theorem cellAt_alloc_new (w : World) (c : Array Value) (t : TypeId) (j : Nat) : cellAt (w.alloc (.cells c t)) w.heap.size j = c[j]? := by
  simp [cellAt, World.cell?_alloc_new]

theorem unfrozen_alloc_new (w : World) (c : Array Value) (t : TypeId) (j : Nat) : unfrozen (w.alloc (.cells c t)) w.heap.size j := by
  simp [unfrozen, World.frozen?_alloc_new]

theorem imm_lt {ρ : Nm} {I : Im} {m : Mem} {w : World} (h : MemR ρ I m w) {b : Nat} (hb : w.heap.size ≤ b) (j : Nat) : I b j = none := by
  cases hi : I b j with
  | none => rfl
  | some x => have := heap_lt (h.imm b j x hi); omega

/-- a new block of cells under a new name. -/
theorem StepR.newBlock {ρ : Nm} {I : Im} {m : Mem} {w : World} {blk : Blk} {g : Gh} (hm : MemR ρ I m w) (hn : ρ m.next = none) (o : Obj) (hg : g.b = w.heap.size)
    (hb : BlkR (ρ.set m.next g) I (w.alloc o) g blk) : StepR ρ I m w (ρ.set m.next g) I (m.alloc blk) (w.alloc o) := by
  refine StepR.fresh hm hn rfl (fun _ _ h _ => h) (fun _ e h => ⟨e, h⟩) (fun _ _ h => h) (fun _ _ h => h) (.inl (by omega)) (by simp [hg]) (fun b hb hne => ?_) (by simp) rfl rfl rfl (fun j x h => ?_) hb
  · exact heap_alloc_old w o b hb
  · rw [hg, imm_lt hm (Nat.le_refl _)] at h; simp at h

theorem step_var {ρ : Nm} {I : Im} {m : Mem} {w : World} {tk : TK} {v : V} {c : Value} (t : TypeId) (hm : MemR ρ I m w) (hn : ρ m.next = none) (hf : v.fits tk = true) (hv : RV ρ I v c) :
    ∃ ρ', StepR ρ I m w ρ' I (m.alloc (.var tk.ek v)) (w.alloc (.cells c.cells t)) ∧ RV ρ' I (.ptr m.next 0 0) (.pointer (some ⟨w.heap.size, 0, none⟩)) := by
  obtain ⟨hok, hs⟩ := V.fits_spec hf
  obtain ⟨hlen, hcells⟩ := hv.cells hs
  let g : Gh := ⟨w.heap.size, 0, tk.ek.sz, 0, 0⟩
  have hext := Nm.set_ext (g := g) hn
  refine ⟨ρ.set m.next g, StepR.newBlock (g := g) hm hn (.cells c.cells t) rfl ?_, ?_⟩
  · refine ⟨rfl, rfl, hok, fun j x e => ?_, fun j _ => unfrozen_alloc_new w c.cells t j, fun j => imm_lt hm (Nat.le_refl _) j⟩
    obtain ⟨hx, y, hy, hr⟩ := hcells j x e
    exact ⟨hx, y, by rw [cellAt_alloc_new]; exact hy, hr.mono hext (ExtI.refl _)⟩
  · have := RV.ptr (ρ := ρ.set m.next g) (I := I) m.next 0 0 g (by simp [Nm.set])
    simpa [g] using this

theorem run_newVar (t : TypeId) (c : Value) (w : World) : (newVar t c).run P w = .ok ⟨w.heap.size, 0, none⟩ (w.alloc (.cells c.cells t)) := by
  simp [newVar, newRow]

theorem zeroD_sound {t : TypeId} {z : D} (h : zeroD P t = some z) : ∃ c, (∀ w, (zeroValue t).run P w = .ok c w) ∧ ∀ I, RD I z c := by
  unfold zeroD at h
  simp only [Option.bind_eq_some_iff] at h
  obtain ⟨c, ⟨i, hi, hz⟩, hd⟩ := h
  refine ⟨c, fun w => ?_, fun I => D.ofValue_sound hd⟩
  simp [zeroValue, run_typeInfo w hi, hz]

theorem alloc_sound {t : TypeId} {m : Mem} {k : V → Mem → Option R} {r : R} {J : Option R → Option R → Option R} {fr : Frame} {o : Oper} (ho : o.op = .alloc t) (h : opC P J fr m (.alloc t) k = some r) :
    OpS P fr m o fun v m' => k v m' = some r := by
  simp only [opC, opPick, opAlloc, opBox, opBuild, opBuildSlice, opLoad, opStore, opNilCheck, opBinOp, opUnOp, opConvert, opMakeInterface, opMakeFunc, opMakeSlice, opSlice, opFieldAddr, opField, opIndexAddr, opIndex, opTypeAssert, opExtract, opMakeMap, opLookup, opMapUpdate, opInsert, opRange, opNext, opEntry, bDelete, bCopy, bClear, bLen, bAppend, opBuiltin] at h
  split at h
  · rename_i tk z htk hz
    cases hf : z.fits tk with
    | false => simp [hf] at h
    | true =>
      simp [hf] at h
      intro ρ I a w hm hn hfr
      obtain ⟨c, hrun, hr⟩ := zeroD_sound hz
      obtain ⟨ρ', hst, hv⟩ := step_var (v := .d z) t hm hn (show (V.d z).fits tk = true from hf) (.d _ _ (hr I))
      refine ⟨.value (.pointer (some ⟨w.heap.size, 0, none⟩)), w.alloc (.cells c.cells t), _, _, ρ', I, ?_, h, hv, hst⟩
      simp [execOp, ho, Instr.alloc, hrun, run_newVar]
  · simp at h

theorem box_sound {t : TypeId} {x : Operand} {m : Mem} {k : V → Mem → Option R} {r : R} {J : Option R → Option R → Option R} {fr : Frame} {o : Oper} (ho : o.op = .box t x) (h : opC P J fr m (.box t x) k = some r) :
    OpS P fr m o fun v m' => k v m' = some r := by
  simp only [opC, opPick, opAlloc, opBox, opBuild, opBuildSlice, opLoad, opStore, opNilCheck, opBinOp, opUnOp, opConvert, opMakeInterface, opMakeFunc, opMakeSlice, opSlice, opFieldAddr, opField, opIndexAddr, opIndex, opTypeAssert, opExtract, opMakeMap, opLookup, opMapUpdate, opInsert, opRange, opNext, opEntry, bDelete, bCopy, bClear, bLen, bAppend, opBuiltin] at h
  obtain ⟨v, h, hv⟩ := evalC_sound h
  split at h
  · rename_i tk htk
    cases hf : v.fits tk with
    | false => simp [hf] at h
    | true =>
      simp [hf] at h
      intro ρ I a w hm hn hfr
      obtain ⟨ρ', hst, hp⟩ := step_var t hm hn hf (hv ρ I a hfr)
      refine ⟨.value (.pointer (some ⟨w.heap.size, 0, none⟩)), w.alloc (.cells (a.eval x).cells t), _, _, ρ', I, ?_, h, hp, hst⟩
      simp [execOp, ho, Instr.box, run_newVar]
  · simp at h

/-! ### setMany -/

theorem setMany_length {α : Type} : ∀ (ys : List α) (l : List α) (i : Nat), (setMany l i ys).length = l.length
  | [], l, i => rfl
  | y :: ys, l, i => by simp [setMany, setMany_length ys]

theorem setMany_get {α : Type} : ∀ (ys : List α) (l : List α) (i j : Nat), i + ys.length ≤ l.length →
    (setMany l i ys)[j]? = if i ≤ j ∧ j < i + ys.length then ys[j - i]? else l[j]?
  | [], l, i, j, _ => by simp [setMany]; omega
  | y :: ys, l, i, j, h => by
    simp only [setMany]
    simp only [List.length_cons] at h
    rw [setMany_get ys (l.set i y) (i + 1) j (by simp; omega)]
    by_cases hj : j = i
    · subst hj
      have hlt : j < l.length := by omega
      rw [if_neg (by omega), if_pos (by simp)]
      simp [hlt]
    · by_cases h2 : i + 1 ≤ j ∧ j < i + 1 + ys.length
      · rw [if_pos h2, if_pos (by simp; omega)]
        have : j - i = (j - (i + 1)) + 1 := by omega
        rw [this]; simp
      · rw [if_neg h2, if_neg (by simp; omega)]
        rw [List.getElem?_set_ne (by omega)]

theorem layC_sound {place : Nat → Option (Nat × TK)} {cplace : Nat → Option (Nat × Nat)} (hp : ∀ i off tk, place i = some (off, tk) → cplace i = some (off, tk.size)) :
    ∀ (ps : List (Nat × V)) (cs : List V) (k : V → Option R) (r : R), layC place ps cs k = some r →
    ∃ v, k v = some r ∧ ∀ ρ I (cps : List (Nat × Value)) (arr : Array Value), cps.map (·.1) = ps.map (·.1) → RVs ρ I (ps.map (·.2)) (cps.map (·.2)) → RV ρ I (.agg cs) (.agg arr) →
      ∃ arr', Instr.fill cplace arr cps = some arr' ∧ RV ρ I v (.agg arr')
  | [], cs, k, r, h => by
    refine ⟨_, h, fun ρ I cps arr h1 h2 h3 => ?_⟩
    cases cps with
    | nil => exact ⟨arr, rfl, mkAgg_sound h3⟩
    | cons => simp at h1
  | (i, v) :: ps, cs, k, r, h => by
    simp only [layC] at h
    split at h
    · rename_i off tk hpl
      cases hf : v.fits tk with
      | false => simp [hf] at h
      | true =>
        rw [hf, cond_true] at h
        split at h
        · rename_i hle
          obtain ⟨u, hk, hu⟩ := layC_sound hp ps _ k r h
          refine ⟨u, hk, fun ρ I cps arr h1 h2 h3 => ?_⟩
          cases cps with
          | nil => simp at h1
          | cons cp cps =>
            obtain ⟨ci, cv⟩ := cp
            simp only [List.map_cons, List.cons.injEq] at h1
            obtain ⟨rfl, h1⟩ := h1
            simp only [List.map_cons] at h2
            obtain ⟨_, _, e, hv, h2⟩ := h2.cons_inv
            simp only [List.cons.injEq] at e
            obtain ⟨rfl, rfl⟩ := e
            obtain ⟨hok, hs⟩ := V.fits_spec hf
            obtain ⟨hlen, hcell⟩ := hv.cells hs
            have hsz : cv.cells.size = tk.size := by
              rw [← hlen, ← V.nc_cells, hok.1, TK.ek_eq]
            cases h3 with
            | agg _ _ a1 a2 a3 =>
              have hfold : ∀ (l : List (Value × Nat)) (ar : Array Value), (l.foldl (fun cs (x : Value × Nat) => cs.setIfInBounds (off + x.2) x.1) ar).size = ar.size := by
                intro l; induction l with
                | nil => intro ar; rfl
                | cons x l ih => intro ar; simp [ih]
              have hget : ∀ (l : List Value) (s : Nat) (ar : Array Value) (j : Nat), off + s + l.length ≤ ar.size →
                  ((l.zipIdx s).foldl (fun cs (x : Value × Nat) => cs.setIfInBounds (off + x.2) x.1) ar)[j]? = if off + s ≤ j ∧ j < off + s + l.length then l[j - (off + s)]? else ar[j]? := by
                intro l
                induction l with
                | nil => intro s ar j _; simp; omega
                | cons x l ih =>
                  intro s ar j hj
                  simp only [List.zipIdx_cons, List.foldl_cons]
                  simp only [List.length_cons] at hj
                  rw [ih (s + 1) _ j (by simp; omega)]
                  by_cases hjs : j = off + s
                  · subst hjs
                    rw [if_neg (by omega), if_pos (by simp)]
                    have : off + s < ar.size := by omega
                    simp [this]
                  · by_cases h2 : off + (s + 1) ≤ j ∧ j < off + (s + 1) + l.length
                    · rw [if_pos h2, if_pos (by simp; omega)]
                      have : j - (off + s) = (j - (off + (s + 1))) + 1 := by omega
                      rw [this]; simp
                    · rw [if_neg h2, if_neg (by simp; omega)]
                      rw [Array.getElem?_setIfInBounds_ne (by omega)]
              let arr1 := cv.cells.toList.zipIdx.foldl (fun cs (x : Value × Nat) => cs.setIfInBounds (off + x.2) x.1) arr
              have e1 : arr1 = cv.cells.zipIdx.foldl (fun cs (x : Value × Nat) => cs.setIfInBounds (off + x.2) x.1) arr := by
                simp only [arr1]
                rw [← Array.foldl_toList, Array.toList_zipIdx]
              have hlc : v.cells.length = tk.size := by rw [hlen, hsz]
              have hrv : RV ρ I (.agg (setMany cs off v.cells)) (.agg arr1) := by
                refine .agg _ _ (by rw [setMany_length, a1, hfold]) (fun j x e => ?_) fun j x y e ey => ?_
                · rw [setMany_get _ _ _ _ (by rw [hlc]; exact hle)] at e
                  split at e
                  · exact (hcell _ x e).1
                  · exact a2 j x e
                · rw [setMany_get _ _ _ _ (by rw [hlc]; exact hle)] at e
                  rw [show arr1[j]? = _ from hget cv.cells.toList 0 arr j (by simp; omega)] at ey
                  simp only [Nat.add_zero, Array.length_toList] at ey
                  rw [hlen] at e
                  split at e
                  · rename_i hj
                    rw [if_pos hj] at ey
                    obtain ⟨_, y', hy', hr⟩ := hcell _ x e
                    rw [Array.getElem?_toList, hy'] at ey
                    simp at ey; subst ey; exact hr
                  · rename_i hj
                    rw [if_neg hj] at ey
                    exact a3 j x y e ey
              obtain ⟨arr', h5, h6⟩ := hu ρ I cps arr1 h1 h2 hrv
              refine ⟨arr', ?_, h6⟩
              simp only [Instr.fill, hp _ _ _ hpl]
              rw [if_neg (by simp only [Bool.or_eq_true, decide_eq_true_eq, not_or]; constructor; · simp [hsz]
                             · omega)]
              rw [← e1]; exact h5
        · simp at h
    · simp at h

end Go.Ab
