/- Calls of built-in functions. -/
import Derived.Test.YtecfekfenhacpaaGreatAbOpsQ
namespace Go.Ab
open Go
set_option linter.unusedVariables false
set_option linter.unusedSimpArgs false
variable {R : Type} {P : Program}

theorem RVs.args1 {ρ : Nm} {I : Im} {x : V} {l : Array Operand} {f : Operand → Value} (h : RVs ρ I [x] (l.toList.map f)) :
    ∃ cx, l.map f = #[cx] ∧ RV ρ I x cx := by
  obtain ⟨c1, cs, e, r1, h⟩ := h.cons_inv
  obtain rfl := h.nil_inv
  exact ⟨c1, by apply Array.toList_inj.1; simpa using e, r1⟩

theorem RVs.args2 {ρ : Nm} {I : Im} {x y : V} {l : Array Operand} {f : Operand → Value} (h : RVs ρ I [x, y] (l.toList.map f)) :
    ∃ cx cy, l.map f = #[cx, cy] ∧ RV ρ I x cx ∧ RV ρ I y cy := by
  obtain ⟨c1, cs, e, r1, h⟩ := h.cons_inv
  obtain ⟨c2, cs', e', r2, h⟩ := h.cons_inv
  obtain rfl := h.nil_inv
  subst e'
  exact ⟨c1, c2, by apply Array.toList_inj.1; simpa using e, r1, r2⟩

theorem rowF_one {ρ : Nm} {I : Im} {z : D} {c : Value} (hr : RD I z c) (n : Nat) : ∀ x, x ∈ (madeCells c.cells n).toList → x.oneCell' = true := by
  intro x hx
  simp only [madeCells, Array.toList_map, List.mem_map] at hx
  obtain ⟨i, hi, rfl⟩ := hx
  obtain ⟨h1, h2⟩ := hr.cells
  by_cases hlt : i % c.cells.size < c.cells.size
  · rw [getElem!_pos c.cells _ hlt]
    obtain ⟨a1, y, a2, a3⟩ := h2 (i % c.cells.size) (z.cells[i % c.cells.size]'(by omega)) (List.getElem?_eq_getElem (by omega))
    have := (a3.notAgg a1).2.2
    have e : c.cells[i % c.cells.size] = y := by rw [Array.getElem?_eq_getElem hlt] at a2; simpa using a2
    rw [e]; exact this
  · rw [getElem!_neg c.cells _ hlt]; rfl

theorem clearRow_sound {e : TypeId} {tk : TK} {z : D} {m : Mem} {n lo len : Nat} {k : Mem → Option R} {r : R} (hz : zeroD P e = some z) (hf : z.fits tk = true) {ek : EK} {r0 : Row} {c0 : Option Nat} {f0 : Bool}
    (hg0 : m.get n = some (.arr ek r0 c0 f0)) (hek : ek = tk.ek) (h : clearRow tk z m n lo len k = some r) :
    ∃ m', k m' = some r ∧ ∀ ρ I (w : World) (g : Gh) (ad : Addr), MemR ρ I m w → ρ n = some g → (len ≠ 0 → ad = ⟨g.b, g.o + lo * g.sz, none⟩) →
      ∃ c w', (∀ w, (zeroValue e).run P w = .ok c w) ∧ (storeCells ad (Builtin.zeroCells c.cells len).toList).run P w = .ok () w' ∧ StepR ρ I m w ρ I m' w' := by
  unfold clearRow at h
  split at h
  · rename_i rz hrz
    obtain ⟨ek1, r1, cap, r', hg, hi, happ, hk⟩ := putRowC_spec h
    refine ⟨_, hk, fun ρ I w g ad hm hρ had => ?_⟩
    have := getW_get hg hg0
    simp only [Blk.arr.injEq] at this
    obtain ⟨rfl, rfl, rfl, rfl⟩ := this
    subst hek
    obtain ⟨c, hrun, hr⟩ := zeroD_sound hz
    obtain ⟨hsz, _⟩ := zero_fits (ρ := ρ) (hr I) hf
    have hzc : Builtin.zeroCells c.cells len = madeCells c.cells (len * c.cells.size) := rfl
    have hl := rowOf_spec hrz (LF.made (ρ := ρ) (hr I) hf len (len * c.cells.size) (by rw [hsz]; exact Nat.le_refl _))
    rw [List.length_replicate] at hl
    obtain ⟨hlen, hrow⟩ := hl
    obtain ⟨g', hρ', h1, h2, h3, h4, h5, h6, h7, h8⟩ := hm.blk n _ hg0
    obtain rfl : g' = g := by rw [hρ] at hρ'; simpa using hρ'.symm
    have hcs : (madeCells c.cells (len * c.cells.size)).toList.length = len * tk.ek.sz := by rw [Array.length_toList, size_madeCells, hsz]
    rw [hlen] at hi
    have hin : (lo + len) * tk.ek.sz ≤ g'.cap * tk.ek.sz := Nat.mul_le_mul_right _ (by omega)
    rw [Nat.add_mul] at hin
    obtain ⟨w', hst, hw⟩ := store_first (P := P) (w := w) (b := g'.b) (o := g'.o + lo * g'.sz) (ad := ad) (cs := (madeCells c.cells (len * c.cells.size)).toList) (rowF_one (ρ := ρ) (hr I) _)
      (fun hne => had (by rintro rfl; rw [hcs] at hne; simp at hne)) (fun j hj => by
        have := h5 (lo * tk.ek.sz + j) (by omega)
        rw [h1, Nat.add_assoc]; exact this)
    refine ⟨c, w', hrun, by rw [hzc]; exact hst, ?_⟩
    have hrow' : RowF ρ I (fun j => (madeCells c.cells (len * c.cells.size)).toList[j]?) tk.ek rz := by simpa using hrow
    exact (step_putRow hm hg hρ (by rw [hlen]; exact hi) happ (by rw [hcs, hlen]) hrow' (by rw [h1] at hw; exact hw)).1
  · simp at h

variable {J : Option R → Option R → Option R} {fr : Frame} {m : Mem} {o : Oper} {k : V → Mem → Option R} {r : R}

theorem types1 {c : Call} {t : TypeId} (h : c.argTypes.toList = [t]) : c.argTypes = #[t] := by apply Array.toList_inj.1; simpa using h
theorem types2 {c : Call} {t u : TypeId} (h : c.argTypes.toList = [t, u]) : c.argTypes = #[t, u] := by apply Array.toList_inj.1; simpa using h

theorem builtin_sound {c : Call} {b : Builtin} (ho : o.op = .call c) (hcal : c.callee = .builtin b) (h : opC P J fr m (.call c) k = some r) : ∃ v m', k v m' = some r ∧ OpF P fr m o v m' := by
  simp only [opC, opPick, opAlloc, opBox, opBuild, opBuildSlice, opLoad, opStore, opNilCheck, opBinOp, opUnOp, opConvert, opMakeInterface, opMakeFunc, opMakeSlice, opSlice, opFieldAddr, opField, opIndexAddr, opIndex, opTypeAssert, opExtract, opMakeMap, opLookup, opMapUpdate, opInsert, opRange, opNext, opEntry, bDelete, bCopy, bClear, bLen, bAppend, opBuiltin, hcal] at h
  obtain ⟨vs, h, hvs⟩ := evalsC_sound h
  obtain ⟨consts, hex⟩ : ∃ consts : Array Bool, ∀ (a : Act) (w : World), (execOp a.eval o).run P w = (builtin b c.argTypes o.type consts (c.args.map a.eval)).run P w := ⟨c.args.map fun | .const _ => true | _ => false, fun a w => by
    simp [execOp, ho, resolve, hcal, invoke]; rfl⟩
  split at h
  · -- delete
    rename_i x y
    split at h
    · rename_i t ht
      split at h
      · rename_i kk e d hmk
        cases hok : keyOk kk d with
        | false => simp [hok] at h
        | true =>
          rw [hok, cond_true] at h
          refine ⟨_, m, h, .pure fun ρ I a w hm hf => ?_⟩
          obtain ⟨cx, cy, ea, rx, ry⟩ := (hvs ρ I a hf).args2
          cases rx.d_inv
          exact ⟨.tuple #[], by rw [hex, ea]; simp [builtin, delete_nil hmk hok _ w ht ry.d_inv], .tup _ _ rfl fun j x y e => by simp at e⟩
      · rename_i kk e n d hmk
        cases hok : keyOk kk d with
        | false => simp [hok] at h
        | true =>
          rw [hok, cond_true] at h
          split at h
          · rename_i es clock hg
            obtain ⟨m', h, hd⟩ := deleteC_sound hmk hok hg h
            refine ⟨_, m', h, .mem fun ρ I a w hm hn hf => ?_⟩
            obtain ⟨cx, cy, ea, rx, ry⟩ := (hvs ρ I a hf).args2
            obtain ⟨w', h1, h2⟩ := hd ρ I cx cy o.type c.argTypes w ht hm rx ry.d_inv
            exact ⟨.tuple #[], w', ρ, by rw [hex, ea]; simp [builtin, h1], .tup _ _ rfl fun j x y e => by simp at e, h2⟩
          · simp at h
      · simp at h
    · simp at h
  · -- copy
    rename_i d s
    split at h
    · rename_i t u ht
      have ht := types2 ht
      split at h
      · rename_i e hu
        split at h
        · rename_i tk htk
          split at h
          · rename_i bs
            split at h
            · obtain ⟨v, m', h, hc⟩ := copyR_sound h
              refine ⟨v, m', h, .mem fun ρ I a w hm hn hf => ?_⟩
              obtain ⟨cx, cy, ea, rx, ry⟩ := (hvs ρ I a hf).args2
              obtain rfl := ry.str_inv
              obtain ⟨cs, hsrc⟩ := strSrc (P := P) (ρ := ρ) (I := I) (w := w) bs
              obtain ⟨c', w', h1, h2, h3⟩ := hc (u := u) (ty := o.type) hu htk ρ I cx _ cs w hm rx hsrc
              exact ⟨c', w', ρ, by rw [hex, ea, ht]; simp [builtin, h1], h2, h3⟩
            · simp at h
          · simp only [copyC] at h
            obtain ⟨rw_, h, hel⟩ := elemsC_sound h
            obtain ⟨v, m', h, hc⟩ := copyR_sound h
            refine ⟨v, m', h, .mem fun ρ I a w hm hn hf => ?_⟩
            obtain ⟨cx, cy, ea, rx, ry⟩ := (hvs ρ I a hf).args2
            obtain ⟨a', cap, b', o', hsl⟩ := hel ρ I cy w hm ry
            obtain ⟨cs, hsrc⟩ := hsl.src (P := P)
            obtain ⟨c', w', h1, h2, h3⟩ := hc (u := u) (ty := o.type) hu htk ρ I cx _ cs w hm rx hsrc
            exact ⟨c', w', ρ, by rw [hex, ea, ht]; simp [builtin, h1], h2, h3⟩
        · simp at h
      · simp at h
    · simp at h
  · -- clear
    rename_i x
    split at h
    · rename_i t ht
      split at h
      · rename_i hu
        refine ⟨_, m, h, .pure fun ρ I a w hm hf => ?_⟩
        obtain ⟨cx, ea, rx⟩ := (hvs ρ I a hf).args1
        cases rx.d_inv
        exact ⟨.tuple #[], by rw [hex, ea]; simp [builtin, Builtin.clear_, ht, run_underlying hu], .tup _ _ rfl fun j x y e => by simp at e⟩
      · rename_i hu
        split at h
        · rename_i es clock hg
          refine ⟨_, _, h, .mem fun ρ I a w hm hn hf => ?_⟩
          obtain ⟨cx, ea, rx⟩ := (hvs ρ I a hf).args1
          obtain ⟨g, ces, hρ, rfl, hb, he⟩ := map_of hm (Mem.get_of_getW hg) rx
          refine ⟨.tuple #[], _, ρ, ?_, .tup _ _ rfl fun j x y e => by simp at e, step_map (ces' := #[]) hm hg hρ hb ⟨rfl, fun i e c h1 => by simp at h1⟩⟩
          rw [hex, ea]
          simp [builtin, Builtin.clear_, ht, run_underlying hu, run_getObj_map hb, run_setObj_any hb rfl]
        · simp at h
      · rename_i e hu
        refine ⟨_, m, h, .pure fun ρ I a w hm hf => ?_⟩
        obtain ⟨cx, ea, rx⟩ := (hvs ρ I a hf).args1
        cases rx.d_inv
        exact ⟨.tuple #[], by rw [hex, ea]; simp [builtin, Builtin.clear_, ht, run_underlying hu], .tup _ _ rfl fun j x y e => by simp at e⟩
      · rename_i e n lo len cp hu
        split at h
        · rename_i tk z ek r0 c0 f0 htk hz hg0
          cases hb : z.fits tk && EK.beq ek tk.ek with
          | false => simp [hb] at h
          | true =>
            rw [hb, cond_true] at h
            rw [Bool.and_eq_true] at hb
            obtain ⟨m', h, hc⟩ := clearRow_sound hz hb.1 hg0 (EK.beq_eq hb.2) h
            refine ⟨_, m', h, .mem fun ρ I a w hm hn hf => ?_⟩
            obtain ⟨cx, ea, rx⟩ := (hvs ρ I a hf).args1
            cases rx with | osl _ _ _ _ g ad cc hg a1 a2 a3 a4 a5 a6 =>
            obtain ⟨cz, w', h1, h2, h3⟩ := hc ρ I w g ad hm hg (fun hne => a3 (by omega))
            refine ⟨.tuple #[], w', ρ, ?_, .tup _ _ rfl fun j x y e => by simp at e, h3⟩
            rw [hex, ea]
            by_cases h0 : len = 0
            · subst h0
              have e0 : (Builtin.zeroCells cz.cells 0).toList = [] := by simp [Builtin.zeroCells]
              rw [e0] at h2
              simp [storeCells] at h2
              subst h2
              simp [builtin, Builtin.clear_, ht, run_underlying hu]
            · have : ∃ l, len = l + 1 := ⟨len - 1, by omega⟩
              obtain ⟨l, rfl⟩ := this
              simp [builtin, Builtin.clear_, ht, run_underlying hu, h1, h2]
        · simp at h
      · simp at h
    · simp at h
  · -- len
    rename_i x
    split at h
    · rename_i t ht
      have ht := types1 ht
      split at h
      · rename_i hu
        split at h
        · rename_i s
          refine ⟨_, m, h, .pure fun ρ I a w hm hf => ?_⟩
          obtain ⟨cx, ea, rx⟩ := (hvs ρ I a hf).args1
          obtain rfl := rx.str_inv
          refine ⟨.int .i64 (s.length : Int), ?_, .d _ _ (.int _ _)⟩
          rw [hex, ea, ht]
          have e0 : (⟨s.toArray⟩ : ByteArray).size = s.length := rfl
          simp only [builtin, Builtin.len_, Sem.run_bind]
          simp [run_underlying hu, goInt, e0]
        · simp at h
      · rename_i n e hu
        refine ⟨_, m, h, .pure fun ρ I a w hm hf => ?_⟩
        obtain ⟨cx, ea, rx⟩ := (hvs ρ I a hf).args1
        refine ⟨.int .i64 (n : Int), ?_, .d _ _ (.int _ _)⟩
        rw [hex, ea, ht]
        simp [builtin, Builtin.len_, run_underlying hu, goInt]
      · rename_i e hu
        split at h
        · rename_i tk htk
          obtain ⟨u, h, hl⟩ := lenV_sound (P := P) h
          refine ⟨u, m, h, .pure fun ρ I a w hm hf => ?_⟩
          obtain ⟨cx, ea, rx⟩ := (hvs ρ I a hf).args1
          obtain ⟨c', h1, h2⟩ := hl (ty := o.type) hu ρ I cx w hm rx
          exact ⟨c', by rw [hex, ea, ht]; simp [builtin, h1], h2⟩
        · simp at h
      · rename_i hu
        split at h
        · refine ⟨_, m, h, .pure fun ρ I a w hm hf => ?_⟩
          obtain ⟨cx, ea, rx⟩ := (hvs ρ I a hf).args1
          cases rx.d_inv
          refine ⟨.int .i64 0, ?_, .d _ _ (.int _ _)⟩
          rw [hex, ea, ht]
          simp [builtin, Builtin.len_, run_underlying hu, goInt]
        · split at h
          · rename_i es clock hg
            refine ⟨_, m, h, .pure fun ρ I a w hm hf => ?_⟩
            obtain ⟨cx, ea, rx⟩ := (hvs ρ I a hf).args1
            obtain ⟨g, ces, hρ, rfl, hb, he⟩ := map_of hm hg rx
            refine ⟨.int .i64 (es.length : Int), ?_, .d _ _ (.int _ _)⟩
            rw [hex, ea, ht]
            have := he.1
            simp [builtin, Builtin.len_, run_underlying hu, run_getObj_map hb, goInt, this]
          · simp at h
        · simp at h
      · simp at h
    · simp at h
  · -- min
    obtain ⟨v, h, hv⟩ := minC_sound (P := P) h
    refine ⟨v, m, h, .pure fun ρ I a w hm hf => ?_⟩
    obtain ⟨c', h1, h2⟩ := hv ρ I _ c.argTypes o.type w (hvs ρ I a hf)
    refine ⟨c', ?_, h2⟩
    rw [hex]
    have e : (c.args.toList.map a.eval).toArray = c.args.map a.eval := by apply Array.toList_inj.1; simp
    rw [e] at h1
    simp [builtin, h1]
  · -- max
    obtain ⟨v, h, hv⟩ := maxC_sound (P := P) h
    refine ⟨v, m, h, .pure fun ρ I a w hm hf => ?_⟩
    obtain ⟨c', h1, h2⟩ := hv ρ I _ c.argTypes o.type w (hvs ρ I a hf)
    refine ⟨c', ?_, h2⟩
    rw [hex]
    have e : (c.args.toList.map a.eval).toArray = c.args.map a.eval := by apply Array.toList_inj.1; simp
    rw [e] at h1
    simp [builtin, h1]
  · -- append
    rename_i d s
    split at h
    · rename_i t u ht
      have ht := types2 ht
      split at h
      · rename_i e hu
        split at h
        · rename_i tk inf htk hinf
          cases hz : zeroOk inf tk.size with
          | false => simp [hz] at h
          | true =>
            rw [hz, cond_true] at h
            split at h
            · simp at h
            · rename_i hu2
              split at h
              · rename_i bs
                obtain ⟨v, m', h, hc⟩ := appendR_sound h
                refine ⟨v, m', h, .mem fun ρ I a w hm hn hf => ?_⟩
                obtain ⟨cx, cy, ea, rx, ry⟩ := (hvs ρ I a hf).args2
                obtain rfl := ry.str_inv
                obtain ⟨cs, hsrc⟩ := strSrc (P := P) (ρ := ρ) (I := I) (w := w) bs
                obtain ⟨c', w', ρ', h1, h2, h3⟩ := hc (ty := o.type) hu hu2 (by intro k; simp) htk hinf rfl hz ρ I cx _ cs w hm hn rx hsrc
                exact ⟨c', w', ρ', by rw [hex, ea, ht]; simp [builtin, h1], h2, h3⟩
              · simp at h
            · rename_i td hni hns hu2
              simp only [appendC] at h
              obtain ⟨rw_, h, hel⟩ := elemsC_sound h
              obtain ⟨v, m', h, hc⟩ := appendR_sound h
              refine ⟨v, m', h, .mem fun ρ I a w hm hn hf => ?_⟩
              obtain ⟨cx, cy, ea, rx, ry⟩ := (hvs ρ I a hf).args2
              obtain ⟨a', cap, b', o', hsl⟩ := hel ρ I cy w hm ry
              obtain ⟨cs, hsrc⟩ := hsl.src (P := P)
              obtain ⟨c', w', ρ', h1, h2, h3⟩ := hc (ty := o.type) hu hu2 (fun k e => hni k (by rw [e])) htk hinf rfl hz ρ I cx _ cs w hm hn rx hsrc
              exact ⟨c', w', ρ', by rw [hex, ea, ht]; simp [builtin, h1], h2, h3⟩
            · simp at h
        · simp at h
      · simp at h
    · simp at h
  · simp at h

/-- every operation that is no call of a function and chooses nothing. -/
theorem opF_sound (hn : isNext o.op = false) (h : opC P J fr m o.op k = some r) : ∃ v m', k v m' = some r ∧ OpF P fr m o v m' := by
  cases ho : o.op with
  | call c =>
    cases hcal : c.callee with
    | builtin b => rw [ho] at h; exact builtin_sound ho hcal h
    | _ => rw [ho] at h; simp [opC, opPick, opAlloc, opBox, opBuild, opBuildSlice, opLoad, opStore, opNilCheck, opBinOp, opUnOp, opConvert, opMakeInterface, opMakeFunc, opMakeSlice, opSlice, opFieldAddr, opField, opIndexAddr, opIndex, opTypeAssert, opExtract, opMakeMap, opLookup, opMapUpdate, opInsert, opRange, opNext, opEntry, bDelete, bCopy, bClear, bLen, bAppend, opBuiltin, hcal] at h
  | _ => exact opC_sound hn (by rw [ho]) h

theorem opS_sound (hJ : Joins J) (h : opC P J fr m o.op k = some r) : OpS P fr m o fun v m' => k v m' = some r := by
  cases hn : isNext o.op with
  | true => exact next_sound hJ hn h
  | false => obtain ⟨v, m', hk, hf⟩ := opF_sound hn h; exact hf.imp hk

end Go.Ab
