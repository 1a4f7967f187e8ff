/- New slices, conversions. -/
import Derived.Test.YtecfekfenhacpaaGreatAbOpsE
namespace Go.Ab
open Go
set_option linter.unusedVariables false
set_option linter.unusedSimpArgs false
variable {R : Type} {P : Program}

theorem zero_fits {ρ : Nm} {I : Im} {z : D} {c : Value} {tk : TK} (hr : RD I z c) (hf : z.fits tk = true) :
    c.cells.size = tk.ek.sz ∧ vsS ρ I tk.ek (.d z) fun j => c.cells[j]? := by
  have hok := D.fits_spec hf
  obtain ⟨h1, h2⟩ := hr.cells
  refine ⟨by rw [← h1, ← D.nc_cells, hok.1], ds_vs ⟨hok, fun j x e => ?_⟩⟩
  obtain ⟨a1, y, a2, a3⟩ := h2 j x e
  exact ⟨a1, y, a2, a3⟩

/-- the cells of so many zero values. -/
theorem LF.made {ρ : Nm} {I : Im} {z : D} {c : Value} {tk : TK} (hr : RD I z c) (hf : z.fits tk = true) (n m : Nat) (hle : n * tk.ek.sz ≤ m) :
    LF (fun j => (madeCells c.cells m)[j]?) tk.ek.sz (vsS ρ I tk.ek) (List.replicate n (.d z)) := by
  intro i e he
  obtain ⟨hsz, hz⟩ := zero_fits (ρ := ρ) hr hf
  have hi : i < n := by simpa using getElem?_range he
  have : e = .d z := by rw [List.getElem?_replicate] at he; simp [hi] at he; exact he.symm
  subst this
  refine ⟨hz.1, fun j x ex => ?_⟩
  obtain ⟨a1, y, a2, a3⟩ := hz.2 j x ex
  refine ⟨a1, y, ?_, a3⟩
  have hj : j < tk.ek.sz := by
    have := (Array.getElem?_eq_some_iff.1 a2).1
    omega
  have := in_row hi hj
  have hlt : i * tk.ek.sz + j < m := by omega
  simp only [madeCells, Array.getElem?_map]
  have e1 : (i * tk.ek.sz + j) % c.cells.size = j := by
    rw [hsz, Nat.mul_comm, Nat.mul_add_mod, Nat.mod_eq_of_lt hj]
  have a2 : c.cells[j]? = some y := a2
  have e2 : c.cells[j]! = y := by
    have hj' : j < c.cells.size := by omega
    rw [getElem!_pos c.cells j hj']
    rw [Array.getElem?_eq_getElem hj'] at a2
    simpa using a2
  simp [hlt, e1, e2]

theorem makeSliceC_sound {t : TypeId} {len cap : V} {m : Mem} {k : V → Mem → Option R} {r : R} (h : makeSliceC P t len cap m k = some r) :
    ∃ v m', k v m' = some r ∧ ∀ ρ I (cl cc : Value) (w : World), MemR ρ I m w → ρ m.next = none → RV ρ I len cl → RV ρ I cap cc →
      ∃ c w' ρ', (Instr.makeSlice t cl cc).run P w = .ok c w' ∧ RV ρ' I v c ∧ StepR ρ I m w ρ' I m' w' := by
  unfold makeSliceC at h
  split at h
  · rename_i e hu
    split at h
    · rename_i tk z inf n c htk hz hinf
      split at h
      · rename_i hc
        split at h
        · rename_i rw_ hr
          obtain ⟨h0, hnc, hb, hf, hpos⟩ := hc
          refine ⟨_, _, h, fun ρ I cl cc w hm hn hl hcc => ?_⟩
          cases hl with | d _ _ hl =>
          cases hl
          cases hcc with | d _ _ hcc =>
          cases hcc
          obtain ⟨cz, hrun, hrz⟩ := zeroD_sound hz
          have hrz := hrz I
          have hz' : inf.zero = some cz := by
            have := hrun w
            simp [zeroValue, run_typeInfo w hinf] at this
            cases hzz : inf.zero with
            | none => rw [hzz] at this; simp at this
            | some x => rw [hzz] at this; simp at this; rw [this]
          have hek : tk.ek.sz = tk.size := by rw [TK.ek_eq]
          have hsz : inf.size = tk.size := by
            have := (tkOf_spec htk).1
            simp [Program.cellsOf, hinf] at this
            omega
          have hlf := LF.made (ρ := ρ) hrz hf n.toNat (c.toNat * inf.size) (by rw [hek, hsz]; exact Nat.mul_le_mul_right _ (by omega))
          obtain ⟨l1, l2⟩ := rowOf_spec hr hlf
          have hl1 : rw_.len = n.toNat := by rw [l1]; simp
          have hb1 : (inf.bytes : Int) * c ≤ 281474976710656 := by
            have hle : c.toNat * inf.bytes ≤ c.toNat * (inf.bytes + tk.size) := Nat.mul_le_mul_left _ (by omega)
            have e : (inf.bytes : Int) * c = ((c.toNat * inf.bytes : Nat) : Int) := by
              rw [Int.natCast_mul, Int.toNat_of_nonneg (by omega), Int.mul_comm]
            rw [e]; omega
          have hc63 : c ≤ 9223372036854775807 := by
            have hle : c.toNat * 1 ≤ c.toNat * (inf.bytes + tk.size) := Nat.mul_le_mul_left _ hpos
            omega
          have hrun' := run_make (P := P) w t e inf cz hu hinf hz' .i64 .i64 n c h0 hnc hb1 hc63
          obtain ⟨ρ', hst, hv⟩ := step_row (ek := tk.ek) (r := rw_) (cap := c.toNat) (co := some c.toNat) (frz := false) (C := madeCells cz.cells (c.toNat * inf.size)) (fr := (0, 0)) (w0 := w) e hm hn rfl rfl rfl rfl l2 (by omega)
            (by rw [size_madeCells, hek, hsz]; exact Nat.le_refl _) (by simp) (by simp)
          rw [hl1] at hv
          exact ⟨_, _, ρ', hrun', hv, hst⟩
        · simp at h
      · simp at h
    · simp at h
  · simp at h

theorem u8_of_tk {e : TypeId} (h : tkOf P e = some (.int .u8)) : P.underlying e = some (.int .u8) := by
  obtain ⟨_, ⟨td, i, hu, hi, htd⟩, _⟩ := tkOf_spec h
  rw [hu]
  cases td <;> simp [tkD] at htd <;> first | (subst htd; rfl) | skip

theorem foldl_push_ofNat : ∀ (l : List Int) (r : ByteArray), l.foldl (fun r n => r.push (UInt8.ofNat n.toNat)) r = ⟨r.data ++ (bytesOf l).toArray⟩
  | [], r => by simp [bytesOf]
  | b :: l, r => by
    simp only [List.foldl_cons]
    rw [foldl_push_ofNat l]
    simp [ByteArray.push, bytesOf]

theorem convC_sound {src dst : TypeId} {m : Mem} {x : V} {k : V → Mem → Option R} {r : R} (h : convC P src dst m x k = some r) :
    ∃ v m', k v m' = some r ∧ ∀ ρ I (cx : Value) (w : World), MemR ρ I m w → ρ m.next = none → RV ρ I x cx →
      ∃ c w' ρ', (convert src dst cx).run P w = .ok c w' ∧ RV ρ' I v c ∧ StepR ρ I m w ρ' I m' w' := by
  unfold convC at h
  cases hs : P.underlying src with
  | none => simp [hs] at h
  | some tds =>
    simp only [hs, Option.isNone_some, cond_false] at h
    split at h
    · rename_i ik hu
      split at h
      · rename_i jk n
        refine ⟨_, _, h, fun ρ I cx w hm hn hx => ?_⟩
        cases hx with | d _ _ hx =>
        cases hx
        exact ⟨_, w, ρ, by simp [convert, run_underlying hs, run_underlying hu, Conv.intToInt], .d _ _ (.int _ _), .refl hm⟩
      · simp at h
    · rename_i hu
      split at h
      · rename_i s
        refine ⟨_, _, h, fun ρ I cx w hm hn hx => ?_⟩
        cases hx with | d _ _ hx =>
        cases hx
        exact ⟨_, w, ρ, by simp [convert, run_underlying hs, run_underlying hu], .d _ _ (.str _), .refl hm⟩
      · simp at h
      · split at h
        · rename_i e he
          simp at he; subst he
          split at h
          · rename_i htk
            obtain ⟨rw_, h, hel⟩ := elemsC_sound h
            split at h
            · rename_i l
              refine ⟨_, _, h, fun ρ I cx w hm hn hx => ?_⟩
              obtain ⟨a, cap, b, o, hsl⟩ := hel ρ I cx w hm hx
              have hv := hsl.val
              subst hv
              refine ⟨.string ⟨(bytesOf l).toArray⟩, w, ρ, ?_, .d _ _ (.str _), .refl hm⟩
              rw [run_convert_bytes_string w src dst e a _ cap hs (u8_of_tk htk) hu]
              cases a with
              | none =>
                have h1 := hsl.nil rfl
                have h2 := hsl.le
                have : l = [] := List.eq_nil_of_length_eq_zero (by simp only [Row.len] at h2; omega)
                subst this
                rfl
              | some ad =>
                show (Conv.bytesToString (.slice (some ad) l.length cap)).run P w = _
                rw [run_bytesToString (P := P) w ad l.length cap l, foldl_push_ofNat]
                · have he0 : ByteArray.empty.data = #[] := rfl
                  rw [he0]; simp
                · have := run_loadCells_list (P := P) w ad (l.map (Value.int .u8)) (fun j v hv => by
                    have hlt : j < l.length := by simpa using getElem?_range hv
                    have hne : (Row.is IntKind.u8 l).len * (TK.int IntKind.u8).ek.sz ≠ 0 := by
                      show l.length * 1 ≠ 0
                      omega
                    rw [hsl.at_ ad rfl hne, add_none]
                    have hc := hsl.row.2 j l[j] (List.getElem?_eq_getElem hlt)
                    simp [isS, TK.ek, cellAt] at hc
                    rw [hc]
                    simpa [List.getElem?_eq_getElem hlt] using hv)
                  simpa using this
            · simp at h
          · simp at h
        · simp at h
    · rename_i e hu
      split at h
      · rename_i htk
        split at h
        · rename_i s hs'
          simp at hs'; subst hs'
          refine ⟨_, _, h, fun ρ I cx w hm hn hx => ?_⟩
          cases hx with | d _ _ hx =>
          cases hx
          have hrun := run_bytes_of_string (P := P) w src dst e ⟨s.toArray⟩ hs hu (u8_of_tk htk)
          have hsz : (⟨s.toArray⟩ : ByteArray).size = s.length := by simp [ByteArray.size]
          have hge := grownCap_ge w s.length 0 e
          rw [hsz] at hrun
          have hbs : (bytesRow ⟨s.toArray⟩ (grownCap w s.length 0 e)).size = grownCap w s.length 0 e := by
            simp [bytesRow, hsz]; omega
          obtain ⟨ρ', hst, hv⟩ := step_row (ek := ⟨false, 1⟩) (r := .is .u8 (natsOf s)) (cap := grownCap w s.length 0 e) (co := none) (frz := false) (C := bytesRow ⟨s.toArray⟩ (grownCap w s.length 0 e))
            (fr := ((bytesRow ⟨s.toArray⟩ (grownCap w s.length 0 e)).size, (bytesRow ⟨s.toArray⟩ (grownCap w s.length 0 e)).size + 1)) (w0 := w.drew) e hm hn rfl rfl rfl rfl
            ⟨rfl, fun i n he => by
              simp only [natsOf, List.getElem?_map, Option.map_eq_some_iff] at he
              obtain ⟨b, hb, rfl⟩ := he
              have hlt := getElem?_range hb
              have := bytesRow_at ⟨s.toArray⟩ (grownCap w s.length 0 e) i (by simpa using hlt)
              simp only [isS, Nat.mul_one, Nat.add_zero]
              rw [this]
              rw [List.getElem?_eq_getElem hlt] at hb
              simp at hb
              simp [hb]⟩ (by simpa [Row.len, natsOf] using hge) (by rw [hbs]; simp) (by simp) (by rw [hbs]; intro j hj; simp at hj ⊢; omega)
          refine ⟨_, _, ρ', hrun, ?_, hst⟩
          simpa [Row.len, natsOf] using hv
        · simp at h
      · simp at h
    · simp at h

end Go.Ab
