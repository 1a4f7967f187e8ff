/- copy, slices of slices. -/
import Derived.Test.YtecfekfenhacpaaGreatAbOpsD
import Derived.Laws.Slices
namespace Go.Ab
open Go
set_option linter.unusedVariables false
set_option linter.unusedSimpArgs false
variable {R : Type} {P : Program}

theorem putRowC_spec {m : Mem} {n i : Nat} {s : Row} {k : Mem → Option R} {r : R} (h : putRowC m n i s k = some r) :
    ∃ ek r0 cap r', m.getW n = some (.arr ek r0 cap false) ∧ i + s.len ≤ r0.len ∧ ((r0.cut 0 i).app s).bind (fun x => x.app (r0.cut (i + s.len) (r0.len - (i + s.len)))) = some r' ∧ k (m.set n (.arr ek r' cap false)) = some r := by
  unfold putRowC at h
  split at h
  · rename_i ek r0 cap hg
    split at h
    · rename_i hi
      split at h
      · rename_i r' hr
        exact ⟨ek, r0, cap, r', hg, hi, hr, h⟩
      · simp at h
    · simp at h
  · simp at h

theorem WroteR.none (w : World) (b o : Nat) : WroteR w w b o [] :=
  ⟨fun j => by rw [if_neg (by simp)], fun _ _ => rfl, fun _ => Iff.rfl, rfl, rfl, rfl, rfl⟩

theorem getW_get {m : Mem} {n : Nat} {b b' : Blk} (h : m.getW n = some b) (h' : m.get n = some b') : b = b' := by
  rw [Mem.get_of_getW h] at h'; simpa using h'

/-- storing the first cells of a source in a row. -/
theorem store_first {w : World} {b o : Nat} {ad : Addr} {cs : List Value} (hone : ∀ c, c ∈ cs → c.oneCell' = true) (had : cs.length ≠ 0 → ad = ⟨b, o, none⟩)
    (hcells : ∀ j, j < cs.length → (∃ y, cellAt w b (o + j) = some y) ∧ unfrozen w b (o + j)) : ∃ w', (storeCells ad cs).run P w = .ok () w' ∧ WroteR w w' b o cs := by
  by_cases h0 : cs.length = 0
  · obtain rfl := List.eq_nil_of_length_eq_zero h0
    exact ⟨w, rfl, WroteR.none w b o⟩
  · rw [had h0]
    exact run_storeCells (P := P) cs 0 w hone hcells

theorem copyR_sound {tk : TK} {m : Mem} {dst : V} {s : Row} {k : V → Mem → Option R} {r : R} (h : copyR tk m dst s k = some r) :
    ∃ v m', k v m' = some r ∧ ∀ {t u ty e : TypeId}, P.underlying t = some (.slice e) → tkOf P e = some tk →
      ∀ ρ I (cd x : Value) (cs : List Value) (w : World), MemR ρ I m w → RV ρ I dst cd → SrcR P ρ I w tk.ek s x cs →
      ∃ c w', (Builtin.copy_ #[t, u] ty #[cd, x]).run P w = .ok c w' ∧ RV ρ I v c ∧ StepR ρ I m w ρ I m' w' := by
  have hek : tk.ek.sz = tk.size := by rw [TK.ek_eq]
  have fin : ∀ {t u ty e : TypeId}, P.underlying t = some (.slice e) → tkOf P e = some tk → ∀ {ρ I} {x : Value} {cs : List Value} {w w' : World} {a : Option Addr} {dLen dCap : Nat}, SrcR P ρ I w tk.ek s x cs →
      (∀ ad, a = some ad → (storeCells ad (cs.take (min s.len dLen * tk.ek.sz))).run P w = .ok () w') → (a = none → w' = w) →
      (Builtin.copy_ #[t, u] ty #[.slice a dLen dCap, x]).run P w = .ok (goInt (min s.len dLen : Nat)) w' := by
    intro t u ty e ht htk ρ I x cs w w' a dLen dCap hsrc h1 h2
    have hf := hsrc.first (min s.len dLen) (Nat.min_le_left _ _)
    rw [hek] at hf h1
    cases a with
    | none =>
      obtain rfl := h2 rfl
      simp [Builtin.copy_, run_underlying ht, hsrc.len, (tkOf_spec htk).2.2.2, hf]
    | some ad =>
      have h1 := h1 ad rfl
      simp [Builtin.copy_, run_underlying ht, hsrc.len, (tkOf_spec htk).2.2.2, hf, h1]
  -- into a row from a place on
  have into : ∀ {n lo dl : Nat} {k' : Mem → Option R}, putRowC m n lo (s.cut 0 (min s.len dl)) k' = some r →
      ∃ m' , k' m' = some r ∧ ∀ {t u ty e : TypeId}, P.underlying t = some (.slice e) → tkOf P e = some tk →
      ∀ ρ I (x : Value) (cs : List Value) (w : World) (g : Gh) (ek : EK) r0 c0 f0 (ad : Addr) (dCap : Nat), MemR ρ I m w → m.get n = some (.arr ek r0 c0 f0) → ek = tk.ek → ρ n = some g → dl ≤ dCap → (dCap ≠ 0 → ad = ⟨g.b, g.o + lo * g.sz, none⟩) → SrcR P ρ I w tk.ek s x cs →
      ∃ w', (Builtin.copy_ #[t, u] ty #[.slice (some ad) dl dCap, x]).run P w = .ok (goInt (min s.len dl : Nat)) w' ∧ StepR ρ I m w ρ I m' w' := by
    intro n lo dl k' hp
    obtain ⟨ek, r0, cap, r', hg, hi, happ, hk⟩ := putRowC_spec hp
    refine ⟨_, hk, ?_⟩
    intro t u ty e ht htk ρ I x cs w g ek0 r00 c0 f0 ad dCap hm hget0 hek0 hρ hdl had hsrc
    have := getW_get hg hget0
    simp only [Blk.arr.injEq] at this
    obtain ⟨rfl, rfl, rfl, rfl⟩ := this
    subst hek0
    obtain ⟨g', hρ', h1, h2, h3, h4, h5, h6, h7, h8⟩ := hm.blk n _ hget0
    obtain rfl : g' = g := by rw [hρ] at hρ'; simpa using hρ'.symm
    have hcl := Row.cut_len s 0 (min s.len dl) (by omega)
    rw [hcl] at hi
    have hmul : min s.len dl * tk.ek.sz ≤ s.len * tk.ek.sz := Nat.mul_le_mul_right _ (Nat.min_le_left _ _)
    have hin : (lo + min s.len dl) * tk.ek.sz ≤ g'.cap * tk.ek.sz := Nat.mul_le_mul_right _ (by omega)
    rw [Nat.add_mul] at hin
    have htl : (cs.take (min s.len dl * tk.ek.sz)).length = min s.len dl * tk.ek.sz := by rw [List.length_take, hsrc.size]; omega
    obtain ⟨w', hr, hw⟩ := store_first (P := P) (w := w) (b := g'.b) (o := g'.o + lo * g'.sz) (ad := ad) (cs := cs.take (min s.len dl * tk.ek.sz)) (fun c hc => hsrc.one c (List.mem_of_mem_take hc))
      (fun hne => had (by rintro rfl; rw [htl, show min s.len dl = 0 by omega] at hne; simp at hne)) (fun j hj => by
        have := h5 (lo * tk.ek.sz + j) (by omega)
        rw [h1, Nat.add_assoc]; exact this)
    refine ⟨w', fin ht htk hsrc (fun ad' e => by simp at e; subst e; exact hr) (by simp), ?_⟩
    have hrow : RowF ρ I (fun j => (cs.take (min s.len dl * tk.ek.sz))[j]?) tk.ek (s.cut 0 (min s.len dl)) := by
      refine (hsrc.row.cut 0 (min s.len dl)).congr (ExtN.refl _) (ExtI.refl _) fun j y hj hy => ?_
      rw [hcl] at hj
      simp only [Nat.zero_mul, Nat.zero_add] at hy
      rw [List.getElem?_take, if_pos hj]; exact hy
    exact (step_putRow hm hg hρ (by rw [hcl]; exact hi) happ (by rw [htl, hcl]) hrow (by rw [h1] at hw; exact hw)).1
  unfold copyR at h
  split at h
  · rename_i n
    split at h
    · rename_i ek r0 cap frz hget
      cases he : EK.beq ek tk.ek with
      | false => simp [he] at h
      | true =>
        rw [he, cond_true] at h
        obtain ⟨m', hk, hf⟩ := into h
        refine ⟨_, m', hk, ?_⟩
        intro t u ty e ht htk ρ I cd x cs w hm hd hsrc
        obtain ⟨g, hρ, h1, h2, h3, h4, h5, h6, h7, h8⟩ := hm.blk n _ hget
        cases hd with | own _ g' hg' =>
        obtain rfl : g' = g := by rw [hρ] at hg'; simpa using hg'.symm
        obtain ⟨w', hr, hst⟩ := hf (u := u) (ty := ty) ht htk ρ I x cs w g' ek r0 cap frz ⟨g'.b, g'.o, none⟩ g'.cap hm hget (EK.beq_eq he) hρ (by omega) (fun _ => by simp) hsrc
        rw [h2]
        exact ⟨_, w', hr, .d _ _ (.int _ _), hst⟩
    · simp at h
  · rename_i n lo len cp
    split at h
    · rename_i ek r0 cap frz hget
      cases he : EK.beq ek tk.ek with
      | false => simp [he] at h
      | true =>
        rw [he, cond_true] at h
        obtain ⟨m', hk, hf⟩ := into h
        refine ⟨_, m', hk, ?_⟩
        intro t u ty e ht htk ρ I cd x cs w hm hd hsrc
        cases hd with | osl _ _ _ _ g ad c hg a1 a2 a3 a4 a5 a6 =>
        obtain ⟨w', hr, hst⟩ := hf (u := u) (ty := ty) ht htk ρ I x cs w g ek r0 cap frz ad c hm hget (EK.beq_eq he) hg a2 a3 hsrc
        exact ⟨_, w', hr, .d _ _ (.int _ _), hst⟩
    · simp at h
  · refine ⟨_, _, h, ?_⟩
    intro t u ty e ht htk ρ I cd x cs w hm hd hsrc
    cases hd with | d _ _ hd =>
    cases hd
    refine ⟨_, w, fin ht htk hsrc (by simp) (fun _ => rfl), ?_, .refl hm⟩
    simp only [Nat.min_zero]
    exact .d _ _ (.int _ _)
  · simp at h

/-! ### slices of slices -/

def optR (ρ : Nm) (I : Im) (v : Option V) (c : Option Value) : Prop :=
  match v, c with
  | none, none => True
  | some v, some c => RV ρ I v c
  | _, _ => False

def capM (c : Option Int) (cap : Nat) : Nat := match c with | none => cap | some x => x.toNat

theorem optBound_spec {d : Nat} {v : Option V} {k : Int → Option R} {r : R} (h : optBound d v k = some r) :
    ∃ n, k n = some r ∧ ((v = none ∧ n = d) ∨ ∃ ik, v = some (.d (.int ik n))) := by
  unfold optBound at h
  split at h
  · exact ⟨_, h, .inl ⟨rfl, rfl⟩⟩
  · rename_i ik n; exact ⟨_, h, .inr ⟨_, rfl⟩⟩
  · simp at h

theorem optR_int {ρ : Nm} {I : Im} {ik : IntKind} {n : Int} {c : Option Value} (h : optR ρ I (some (.d (.int ik n))) c) : c = some (.int ik n) := by
  cases c with
  | none => simp [optR] at h
  | some c => simp only [optR] at h; cases h with | d _ _ h => cases h; rfl

theorem optR_none {ρ : Nm} {I : Im} {c : Option Value} (h : optR ρ I none c) : c = none := by
  cases c with
  | none => rfl
  | some c => simp [optR] at h

theorem lowR {ρ : Nm} {I : Im} {lo : Option V} {a : Int} {cl : Option Value} {b : Nat} (ha : (lo = none ∧ a = ((0 : Nat) : Int)) ∨ ∃ ik, lo = some (.d (.int ik a))) (hl : optR ρ I lo cl) (h0 : 0 ≤ a) (hab : a ≤ (b : Int)) :
    (cl = none ∧ a = 0) ∨ ∃ ik, cl = some (.int ik a) := by
  rcases ha with ⟨rfl, rfl⟩ | ⟨ik, rfl⟩
  · exact .inl ⟨optR_none hl, rfl⟩
  · exact .inr ⟨ik, optR_int hl⟩

theorem boundsC_sound {l : Nat} {lo hi mx : Option V} {k : Int → Int → Option Int → Option R} {r : R} (h : boundsC l lo hi mx k = some r) :
    ∃ a b c, k a b c = some r ∧ 0 ≤ a ∧ a ≤ b ∧ b ≤ (l : Int) ∧ (mx = none ↔ c = none) ∧ (∀ x, c = some x → b ≤ x ∧ x ≤ (l : Int)) ∧
      ∀ ρ I (cl ch cm : Option Value) (isSlice : Bool) (cap : Nat) (w : World), optR ρ I lo cl → optR ρ I hi ch → optR ρ I mx cm → l ≤ cap →
        (Instr.sliceBounds isSlice l cap cl ch cm).run P w = .ok (a.toNat, b.toNat, capM c cap) w := by
  unfold boundsC at h
  obtain ⟨a, h, ha⟩ := optBound_spec h
  obtain ⟨b, h, hb⟩ := optBound_spec h
  cases mx with
  | none =>
    simp only at h
    split at h
    · rename_i hh
      refine ⟨a, b, none, h, hh.1, hh.2.1, hh.2.2, by simp, by simp, fun ρ I cl ch cm isSlice cap w hl hhi hm hle => ?_⟩
      rw [optR_none hm]
      have hbn : ((b.toNat : Nat) : Int) = b := Int.toNat_of_nonneg (by omega)
      have hlow := lowR (b := b.toNat) ha hl hh.1 (by omega)
      have e1 : ∀ (ik : IntKind) code, (Instr.sliceBound (.int ik b) cap code).run P w = .ok b.toNat w := fun ik code => run_sliceBound w ik b cap code (by omega) (by omega)
      have e2 : ∀ (ik : IntKind) code, (Instr.sliceBound (.int ik a) b.toNat code).run P w = .ok a.toNat w := fun ik code => run_sliceBound w ik a b.toNat code (by omega) (by omega)
      rcases hb with ⟨rfl, rfl⟩ | ⟨ik, rfl⟩
      · rw [optR_none hhi]
        simp only [Int.toNat_natCast] at e2
        rcases hlow with ⟨rfl, rfl⟩ | ⟨jk, rfl⟩ <;> simp [Instr.sliceBounds, e2, capM]
      · rw [optR_int hhi]
        rcases hlow with ⟨rfl, rfl⟩ | ⟨jk, rfl⟩ <;> simp [Instr.sliceBounds, e1, e2, capM]
    · simp at h
  | some mv =>
    simp only at h
    cases hi with
    | none => simp at h
    | some hv =>
      simp only at h
      obtain ⟨c, h, hc⟩ := optBound_spec h
      split at h
      · rename_i hh
        refine ⟨a, b, some c, h, hh.1, hh.2.1, by omega, by simp, by intro x hx; simp at hx; subst hx; exact ⟨hh.2.2.1, hh.2.2.2⟩, fun ρ I cl ch cm isSlice cap w hl hhi hm hle => ?_⟩
        have hlow := lowR (b := b.toNat) ha hl hh.1 (by omega)
        have e0 : ∀ (ik : IntKind) code, (Instr.sliceBound (.int ik c) cap code).run P w = .ok c.toNat w := fun ik code => run_sliceBound w ik c cap code (by omega) (by omega)
        have e1 : ∀ (ik : IntKind) code, (Instr.sliceBound (.int ik b) c.toNat code).run P w = .ok b.toNat w := fun ik code => run_sliceBound w ik b c.toNat code (by omega) (by omega)
        have e2 : ∀ (ik : IntKind) code, (Instr.sliceBound (.int ik a) b.toNat code).run P w = .ok a.toNat w := fun ik code => run_sliceBound w ik a b.toNat code (by omega) (by omega)
        rcases hb with ⟨e, _⟩ | ⟨ik, e⟩
        · simp at e
        · simp at e; subst e
          rcases hc with ⟨e, _⟩ | ⟨jk, e⟩
          · simp at e
          · simp at e; subst e
            rw [optR_int hhi, optR_int hm]
            rcases hlow with ⟨rfl, rfl⟩ | ⟨jk, rfl⟩ <;> simp [Instr.sliceBounds, e0, e1, e2, capM]
      · simp at h

theorem if_some (M L : Nat) (a0 : Addr) (X : Nat) : ∃ ad', (if M = L then some a0 else (some a0).map (·.add X)) = some ad' ∧ (M - L ≠ 0 → ad' = a0.add X) := by
  split
  · exact ⟨a0, rfl, by omega⟩
  · exact ⟨_, rfl, fun _ => rfl⟩

theorem cut_get {α : Type} {l : List α} {a b : Int} {i : Nat} {x : α} (h : (cut l a b)[i]? = some x) : l[a.toNat + i]? = some x ∧ a.toNat + i < b.toNat := by
  unfold cut at h
  rw [List.getElem?_drop, List.getElem?_take] at h
  split at h
  · exact ⟨h, by assumption⟩
  · simp at h

theorem cut_len {α : Type} (l : List α) (a b : Int) (h0 : 0 ≤ a) (h1 : a ≤ b) (h2 : b ≤ (l.length : Int)) : (cut l a b).length = b.toNat - a.toNat := by
  simp [cut]; omega

theorem sliceC_sound {t : TypeId} {m : Mem} {x : V} {lo hi mx : Option V} {k : V → Mem → Option R} {r : R} (h : sliceC P t x lo hi mx m k = some r) :
    ∃ v, k v m = some r ∧ ∀ ρ I (cx : Value) (cl ch cm : Option Value) (w : World), MemR ρ I m w → RV ρ I x cx → optR ρ I lo cl → optR ρ I hi ch → optR ρ I mx cm →
      ∃ c, (Instr.sliceAt t cx cl ch cm).run P w = .ok c w ∧ RV ρ I v c := by
  unfold sliceC at h
  split at h
  · -- strings
    rename_i hu
    split at h
    · rename_i s
      obtain ⟨a, b, c, hk, h0, hab, hbl, hmc, _, hb⟩ := boundsC_sound (P := P) h
      refine ⟨_, hk, fun ρ I cx cl ch cm w hm hx hl hh hmx => ?_⟩
      cases hx with | d _ _ hx =>
      cases hx
      obtain rfl := hmc.1 rfl
      have := hb ρ I cl ch cm false s.length w hl hh hmx (Nat.le_refl _)
      obtain rfl := optR_none hmx
      have hsz : (⟨s.toArray⟩ : ByteArray).size = s.length := by simp [ByteArray.size]
      refine ⟨.string ((⟨s.toArray⟩ : ByteArray).extract a.toNat b.toNat), ?_, ?_⟩
      · simp [Instr.sliceAt, run_underlying hu, Instr.slice, hsz, this]
      · have : ((⟨s.toArray⟩ : ByteArray).extract a.toNat b.toNat) = ⟨(cut s a b).toArray⟩ := by
          apply ByteArray.ext
          simp [ByteArray.data_extract, cut, List.drop_take]
        rw [this]
        exact .d _ _ (.str _)
    · simp at h
  · rename_i e hu
    split at h
    · rename_i tk htk
      have hsz := (tkOf_spec htk).2.2.2
      have fin : ∀ {cl ch cm : Option Value} {a b : Int} {c : Option Int} {len cap : Nat} {ad : Option Addr} {w : World},
          (Instr.sliceBounds true len cap cl ch cm).run P w = .ok (a.toNat, b.toNat, capM c cap) w →
          (Instr.sliceAt t (.slice ad len cap) cl ch cm).run P w = .ok (.slice (if (capM c cap) = a.toNat then ad else ad.map (·.add (a.toNat * tk.size))) (b.toNat - a.toNat) ((capM c cap) - a.toNat)) w := by
        intro cl ch cm a b c len cap ad w hb
        simp [Instr.sliceAt, run_underlying hu, Instr.slice, hb, hsz]
      split at h
      · -- an own row
        rename_i n
        split at h
        · rename_i ek r0 cap frz hget
          cases he : Nat.beq ek.sz tk.size with
          | false => simp [he] at h
          | true =>
            rw [he, cond_true] at h
            have he := beq_true.1 he
            obtain ⟨a, b, c, hk, h0, hab, hbl, hmc, hcx, hb⟩ := boundsC_sound (P := P) h
            refine ⟨_, hk, fun ρ I cx cl ch cm w hm hx hl hh hmx => ?_⟩
            obtain ⟨g, hρ, h1, h2, h3, h4, h5, h6, h7, h8⟩ := hm.blk n _ hget
            cases hx with | own _ g' hg' =>
            obtain rfl : g' = g := by rw [hρ] at hg'; simpa using hg'.symm
            have hbb := hb ρ I cl ch cm true g'.cap w hl hh hmx (by omega)
            rw [← h2] at hbb
            obtain ⟨ad', e1, e2⟩ := if_some (capM c g'.cap) a.toNat ⟨g'.b, g'.o, none⟩ (a.toNat * tk.size)
            refine ⟨_, fin hbb, ?_⟩
            rw [e1]
            rw [← h1] at he
            cases c with
            | none =>
              simp only [capM] at e2 ⊢
              exact .osl n a.toNat (b.toNat - a.toNat) none g' ad' _ hρ (by omega) (by omega) (fun hne => by rw [e2 hne, add_none, he]) (fun _ => by omega) (by simp) (by omega)
            | some x =>
              have := hcx x rfl
              simp only [capM] at e2 ⊢
              exact .osl n a.toNat (b.toNat - a.toNat) (some _) g' ad' _ hρ (by omega) (by omega) (fun hne => by rw [e2 hne, add_none, he]) (by simp) (fun k e => by simp at e; exact e) (by omega)
        · simp at h
      · -- a part of a row
        rename_i n l0 len cp
        split at h
        · rename_i ek r0 cap frz hget
          cases he : Nat.beq ek.sz tk.size with
          | false => simp [he] at h
          | true =>
            rw [he, cond_true] at h
            have he := beq_true.1 he
            have main : (cp = none ∨ mx ≠ none) → (boundsC len lo hi mx fun a b c => k (.osl n (l0 + a.toNat) (b.toNat - a.toNat) (capOf c a)) m) = some r →
                ∃ v, k v m = some r ∧ ∀ ρ I (cx : Value) (cl ch cm : Option Value) (w : World), MemR ρ I m w → RV ρ I (.osl n l0 len cp) cx → optR ρ I lo cl → optR ρ I hi ch → optR ρ I mx cm →
                  ∃ c, (Instr.sliceAt t cx cl ch cm).run P w = .ok c w ∧ RV ρ I v c := by
              intro hcm h
              obtain ⟨a, b, c, hk, h0, hab, hbl, hmc, hcx, hb⟩ := boundsC_sound (P := P) h
              refine ⟨_, hk, fun ρ I cx cl ch cm w hm hx hl hh hmx => ?_⟩
              obtain ⟨g, hρ, h1, h2, h3, h4, h5, h6, h7, h8⟩ := hm.blk n _ hget
              cases hx with | osl _ _ _ _ g' ad c' hg' a1 a2 a3 a4 a5 a6 =>
              obtain rfl : g' = g := by rw [hρ] at hg'; simpa using hg'.symm
              have hbb := hb ρ I cl ch cm true c' w hl hh hmx a2
              obtain ⟨ad', e1, e2⟩ := if_some (capM c c') a.toNat ad (a.toNat * tk.size)
              refine ⟨_, fin hbb, ?_⟩
              rw [e1]
              rw [← h1] at he
              have hadd : c' ≠ 0 → ad.add (a.toNat * tk.size) = ⟨g'.b, g'.o + (l0 + a.toNat) * g'.sz, none⟩ := fun hc => by
                rw [a3 hc, add_none, he, Nat.add_mul, Nat.add_assoc]
              cases c with
              | none =>
                have hcp : cp = none := hcm.resolve_right (fun h => h (hmc.2 rfl))
                have := a4 hcp
                simp only [capM] at e2 ⊢
                exact .osl n (l0 + a.toNat) (b.toNat - a.toNat) none g' ad' _ hρ (by omega) (by omega) (fun hne => by rw [e2 hne]; exact hadd (by omega)) (fun _ => by omega) (by simp) (by omega)
              | some x =>
                have := hcx x rfl
                simp only [capM] at e2 ⊢
                exact .osl n (l0 + a.toNat) (b.toNat - a.toNat) (some _) g' ad' _ hρ (by omega) (by omega) (fun hne => by rw [e2 hne]; exact hadd (by omega)) (by simp) (fun k e => by simp at e; exact e) (by omega)
            split at h
            · simp at h
            · rename_i hne
              refine main ?_ h
              cases cp with
              | none => exact .inl rfl
              | some c => exact .inr fun e => hne c rfl e
        · simp at h
      · -- nil
        obtain ⟨a, b, c, hk, h0, hab, hbl, hmc, hcx, hb⟩ := boundsC_sound (P := P) h
        refine ⟨_, hk, fun ρ I cx cl ch cm w hm hx hl hh hmx => ?_⟩
        cases hx with | d _ _ hx =>
        cases hx
        have hbb := hb ρ I cl ch cm true 0 w hl hh hmx (Nat.le_refl _)
        refine ⟨_, fin hbb, ?_⟩
        have e1 : b.toNat - a.toNat = 0 := by omega
        have e2 : (capM c 0) - a.toNat = 0 := by
          cases c with
          | none => simp [capM]
          | some x => have := hcx x rfl; simp only [capM]; omega
        rw [e1, e2]
        simp only [Option.map_none, ite_self]
        exact .d _ _ .nils
      · -- data
        rename_i y hnn
        have nn : y ≠ .nils := fun e => by subst e; exact hnn rfl
        split at h
        · rename_i ik
          simp only [Option.bind_eq_some_iff] at h
          obtain ⟨l, hl, h⟩ := h
          obtain ⟨a, b, c, hk, h0, hab, hbl, hmc, hcx, hb⟩ := boundsC_sound (P := P) h
          replace hk : k (.d (.is ik (cut l a b) (capOf c a))) m = some r := by cases y <;> first | exact hk | (exact absurd rfl nn)
          refine ⟨_, hk, fun ρ I cx cl ch cm w hm hx hlo hh hmx => ?_⟩
          cases hx with | d _ _ hx =>
          rcases ints_spec hl with ⟨cap, rfl⟩ | ⟨rfl, rfl⟩
          · cases hx with | is _ _ _ ad c' h1 h2 h3 =>
            have hbb := hb ρ I cl ch cm true c' w hlo hh hmx h1
            obtain ⟨ad', e1, e2⟩ := if_some (capM c c') a.toNat ad (a.toNat * (TK.int ik).size)
            refine ⟨_, fin hbb, ?_⟩
            rw [e1]
            have hlen := cut_len l a b h0 hab hbl
            have hM : ∀ (i : Nat) (n : Int), (cut l a b)[i]? = some n → (capM c c') - a.toNat ≠ 0 := by
              intro i n hi
              obtain ⟨g1, g2⟩ := cut_get hi
              cases c with
              | none => simp only [capM]; omega
              | some x => have := hcx x rfl; simp only [capM]; omega
            rw [← hlen]
            refine .d _ _ (.is ik (cut l a b) (capOf c a) ad' _ ?_ ?_ ?_)
            · rw [hlen]
              cases c with
              | none => simp only [capM]; omega
              | some x => have := hcx x rfl; simp only [capM]; omega
            · intro n e
              cases c with
              | none => simp [capOf] at e
              | some x => simp [capOf] at e; exact e
            · intro i n hi
              obtain ⟨g1, g2⟩ := cut_get hi
              obtain ⟨b1, b2⟩ := h3 _ _ g1
              rw [e2 (hM i n hi)]
              obtain ⟨bl, of, sp⟩ := ad
              simp at b1; subst b1
              rw [add_none]
              refine ⟨rfl, ?_⟩
              show I bl (of + a.toNat * 1 + i) = _
              rw [Nat.mul_one, Nat.add_assoc]; exact b2
          · exact absurd rfl nn
        · rename_i hni
          simp only [Option.bind_eq_some_iff] at h
          obtain ⟨l, hl, h⟩ := h
          obtain ⟨a, b, c, hk, h0, hab, hbl, hmc, hcx, hb⟩ := boundsC_sound (P := P) h
          replace hk : k (.d (.sl tk.ek (cut l a b) (capOf c a))) m = some r := by cases y <;> first | exact hk | (exact absurd rfl nn)
          refine ⟨_, hk, fun ρ I cx cl ch cm w hm hx hlo hh hmx => ?_⟩
          cases hx with | d _ _ hx =>
          rcases elems_spec hl with ⟨cap, rfl⟩ | ⟨rfl, rfl⟩
          · cases hx with | sl _ _ _ ad c' y h1 h2 h3 h4 h5 =>
            have hek : tk.ek.sz = tk.size := by rw [TK.ek_eq]
            have hbb := hb ρ I cl ch cm true c' w hlo hh hmx h1
            obtain ⟨ad', e1, e2⟩ := if_some (capM c c') a.toNat ad (a.toNat * tk.size)
            refine ⟨_, fin hbb, ?_⟩
            rw [e1]
            have hlen := cut_len l a b h0 hab hbl
            have hM : ∀ (i : Nat) (n : D), (cut l a b)[i]? = some n → (capM c c') - a.toNat ≠ 0 := by
              intro i n hi
              obtain ⟨g1, g2⟩ := cut_get hi
              cases c with
              | none => simp only [capM]; omega
              | some x => have := hcx x rfl; simp only [capM]; omega
            rw [← hlen]
            refine .d _ _ (.sl tk.ek (cut l a b) (capOf c a) ad' _ (fun i j => y (a.toNat + i) j) ?_ ?_ ?_ ?_ ?_)
            · rw [hlen]
              cases c with
              | none => simp only [capM]; omega
              | some x => have := hcx x rfl; simp only [capM]; omega
            · intro n e
              cases c with
              | none => simp [capOf] at e
              | some x => simp [capOf] at e; exact e
            · intro i e hi
              exact h3 _ _ (cut_get hi).1
            · intro i e j x hi hj
              obtain ⟨g1, g2⟩ := cut_get hi
              obtain ⟨b1, b2, b3⟩ := h4 _ _ _ _ g1 hj
              rw [e2 (hM i e hi)]
              obtain ⟨bl, of, sp⟩ := ad
              simp at b1; subst b1
              rw [add_none]
              refine ⟨rfl, b2, ?_⟩
              rw [hek, Nat.add_mul] at b3
              rw [hek]
              show I bl (of + a.toNat * tk.size + (i * tk.size + j)) = _
              rw [← b3]
              congr 1
              simp only [capM]; omega
            · intro i e j x hi hj
              exact h5 _ _ _ _ (cut_get hi).1 hj
          · exact absurd rfl nn
      · simp at h
    · simp at h
  · -- a variable that is an array
    rename_i n e hu
    split at h
    · rename_i a0 off
      have main : ∀ {tk : TK}, tkOf P e = some tk → tk.size = 1 → (boundsC n lo hi none fun u v _ => k (.view a0 (off + u.toNat) (v.toNat - u.toNat)) m) = some r →
          ∃ v, k v m = some r ∧ ∀ ρ I (cx : Value) (cl ch cm : Option Value) (w : World), MemR ρ I m w → RV ρ I (.ptr a0 0 off) cx → optR ρ I lo cl → optR ρ I hi ch → optR ρ I none cm →
            ∃ c, (Instr.sliceAt t cx cl ch cm).run P w = .ok c w ∧ RV ρ I v c := by
        intro tk htk h1 h
        obtain ⟨a, b, c, hk, h0, hab, hbl, hmc, hcx, hb⟩ := boundsC_sound (P := P) h
        refine ⟨_, hk, fun ρ I cx cl ch cm w hm hx hl hh hmx => ?_⟩
        cases hx with | ptr _ _ _ g hg =>
        have hbb := hb ρ I cl ch cm false n w hl hh hmx (Nat.le_refl _)
        obtain rfl := hmc.1 rfl
        obtain rfl := optR_none hmx
        have hsz := (tkOf_spec htk).2.2.2
        rw [h1] at hsz
        obtain ⟨ad', e1, e2⟩ := if_some n a.toNat ⟨g.b, g.o + (0 * g.sz + off), none⟩ (a.toNat * 1)
        have e1' : (some (if n = a.toNat then (⟨g.b, g.o + (0 * g.sz + off), none⟩ : Addr) else (⟨g.b, g.o + (0 * g.sz + off), none⟩ : Addr).add (a.toNat * 1))) = some ad' := by
          rw [← e1]; split <;> rfl
        refine ⟨.slice (some ad') (b.toNat - a.toNat) (n - a.toNat), ?_, ?_⟩
        · simp only [Instr.sliceAt, Sem.run_bind, run_underlying hu, Result.andThen_ok, Instr.sureAddr, Sem.run_pure, hbb, hsz, capM]
          rw [e1']
        · refine .view a0 (off + a.toNat) (b.toNat - a.toNat) g ad' _ hg (by omega) fun hne => ?_
          rw [e2 hne, add_none]
          congr 1; omega
      split at h
      · simp at h
      · rename_i tk hna htk
        have h1 : tk.size = 1 := by cases tk <;> first | rfl | (exact absurd rfl (hna _))
        exact main htk h1 h
      · simp at h
    · simp at h
  · simp at h

end Go.Ab
