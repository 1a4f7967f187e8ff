/- append, copy. -/
import Derived.Test.YtecfekfenhacpaaGreatAbOpsC
namespace Go.Ab
open Go
set_option linter.unusedVariables false
set_option linter.unusedSimpArgs false
variable {R : Type} {P : Program}

theorem del_facts {m : Mem} {n : Nat} {b : Blk} (h : m.getW n = some b) :
    (∀ n' e, getEnt m.l n' = some e → (e.ro = true ∨ e.hid = true) → getEnt (m.del n).l n' = some e) ∧ (∀ n' e, getEnt (m.del n).l n' = some e → ∃ e', getEnt m.l n' = some e') ∧
    (∀ n' b, (m.del n).get n' = some b → m.get n' = some b ∧ n' ≠ n) ∧ (∀ n' b, (m.del n).getW n' = some b → m.getW n' = some b) := by
  refine ⟨fun n' e he hf => ?_, fun n' e he => ?_, fun n' b hb => ?_, fun n' b hb => ?_⟩
  · by_cases hn : n' = n
    · subst hn; exact absurd hf (getW_flags h he)
    · rw [getEnt_del hn]; exact he
  · by_cases hn : n' = n
    · subst hn
      have : getEnt (m.del n').l n' = none := by unfold Mem.del; simp only; rw [getEnt_delEnt, if_pos rfl]
      rw [this] at he; simp at he
    · rw [getEnt_del hn] at he; exact ⟨e, he⟩
  · rw [Mem.get_del] at hb
    split at hb
    · simp at hb
    · exact ⟨hb, by assumption⟩
  · rw [Mem.getW_del] at hb
    split at hb
    · simp at hb
    · exact hb

/-- elements laid behind a row, in its own block, under a new name. -/
theorem step_inplace {ρ : Nm} {I : Im} {m : Mem} {w w' : World} {n lo len : Nat} {ek : EK} {r r0 s r' : Row} {cap : Option Nat} {frz : Bool} {g : Gh} {cs : List Value}
    (hm : MemR ρ I m w) (hn : ρ m.next = none) (hget : m.getW n = some (.arr ek r cap frz)) (hρ : ρ n = some g) (hlo : lo + len = r.len) (hr0 : r0.len = len)
    (hrow0 : RowF ρ I (fun j => cellAt w g.b (g.o + lo * ek.sz + j)) ek r0) (happ : r0.app s = some r') (hcs : cs.length = s.len * ek.sz) (hs : RowF ρ I (fun j => cs[j]?) ek s)
    (hw : WroteR w w' g.b (g.o + r.len * ek.sz) cs) (hle : r.len + s.len ≤ g.cap) :
    StepR ρ I m w (ρ.set m.next ⟨g.b, g.o + lo * ek.sz, ek.sz, r'.len, g.cap - lo⟩) I ((m.del n).alloc (.arr ek r' none frz)) w' := by
  obtain ⟨d1, d2, d3, d4⟩ := del_facts hget
  obtain ⟨g', hρ', h1, h2, h3, h4, h5, h6, h7, h8⟩ := hm.blk n _ (Mem.get_of_getW hget)
  obtain rfl : g' = g := by rw [hρ] at hρ'; simpa using hρ'.symm
  have hlen := Row.app_len happ
  have hext := Nm.set_ext (g := ⟨g'.b, g'.o + lo * ek.sz, ek.sz, r'.len, g'.cap - lo⟩) hn
  have hsame : ∀ j, j < g'.o + r.len * ek.sz → cellAt w' g'.b j = cellAt w g'.b j := fun j hj => by
    rw [hw.cell, if_neg (by omega)]
  refine StepR.fresh (g := ⟨g'.b, g'.o + lo * ek.sz, ek.sz, r'.len, g'.cap - lo⟩) hm hn rfl d1 d2 (fun n' b h => (d3 n' b h).1) d4
    (.inr ⟨⟨n, _, g', hget, hρ, rfl⟩, fun n' b g'' h h' e => (d3 n' b h).2 (hm.inj n' n b _ g'' g' (d3 n' b h).1 (Mem.get_of_getW hget) h' hρ e)⟩) (by show g'.b < _; rw [hw.size]; exact hm.dom _ _ hρ)
    (fun b _ hb => hw.other b hb) (by rw [hw.size]; exact Nat.le_refl _) hw.os hw.out hw.tape (fun j x hx => ?_) ?_
  · have hj : j < g'.o + r.len * ek.sz := by
      rcases Nat.lt_or_ge j (g'.o + r.len * ek.sz) with h | h
      · exact h
      · simp only at hx
        rw [h8 j (by rw [h2]; exact h)] at hx; simp at hx
    show cellAt w' g'.b j = _
    rw [hsame j hj]; exact hm.imm _ _ _ hx
  · refine ⟨rfl, rfl, by show r'.len ≤ g'.cap - lo; omega, by simp, fun j hj => ?_, ?_, fun hf j hj => h7 hf j ?_, fun j hj => h8 j ?_⟩
    · have hj' : lo * ek.sz + j < g'.cap * ek.sz := by
        have : (g'.cap - lo) * ek.sz + lo * ek.sz ≤ g'.cap * ek.sz := by rw [← Nat.add_mul]; exact Nat.mul_le_mul_right _ (by omega)
        simp only at hj
        omega
      obtain ⟨⟨y, hy⟩, hu⟩ := h5 _ hj'
      show (∃ y, cellAt w' g'.b (g'.o + lo * ek.sz + j) = some y) ∧ unfrozen w' g'.b (g'.o + lo * ek.sz + j)
      rw [Nat.add_assoc]
      refine ⟨?_, (hw.frz _).2 hu⟩
      rw [hw.cell]
      split
      · rename_i hj'
        have : g'.o + (lo * ek.sz + j) - (g'.o + r.len * ek.sz) < cs.length := by omega
        exact ⟨_, by rw [List.getElem?_eq_getElem this]⟩
      · exact ⟨y, hy⟩
    · rw [rowR_iff]
      have hrl : r.len * ek.sz = lo * ek.sz + len * ek.sz := by rw [← hlo, Nat.add_mul]
      refine RowF.append (hrow0.congr hext (ExtI.refl _) fun j y hj hy => ?_) (hs.congr hext (ExtI.refl _) fun j y hj hy => ?_) happ
      · show cellAt w' g'.b (g'.o + lo * ek.sz + j) = _
        rw [hr0] at hj
        rw [hsame _ (by omega)]; exact hy
      · show cellAt w' g'.b (g'.o + lo * ek.sz + (r0.len * ek.sz + j)) = _
        rw [hr0]
        rw [← hcs] at hj
        rw [hw.cell, if_pos (by omega)]
        rw [show g'.o + lo * ek.sz + (len * ek.sz + j) - (g'.o + r.len * ek.sz) = j by omega]; exact hy
    · simp only at hj; omega
    · simp only [hlen, hr0, Nat.add_mul] at hj
      have hrl : r.len * ek.sz = lo * ek.sz + len * ek.sz := by rw [← hlo, Nat.add_mul]
      rw [h2]; omega

/-- elements written into a row. -/
theorem step_putRow {ρ : Nm} {I : Im} {m : Mem} {w w' : World} {n i : Nat} {ek : EK} {r s r' : Row} {cap : Option Nat} {g : Gh} {cs : List Value}
    (hm : MemR ρ I m w) (hget : m.getW n = some (.arr ek r cap false)) (hρ : ρ n = some g) (hi : i + s.len ≤ r.len)
    (happ : ((r.cut 0 i).app s).bind (fun x => x.app (r.cut (i + s.len) (r.len - (i + s.len)))) = some r') (hcs : cs.length = s.len * ek.sz) (hs : RowF ρ I (fun j => cs[j]?) ek s)
    (hw : WroteR w w' g.b (g.o + i * ek.sz) cs) :
    StepR ρ I m w ρ I (m.set n (.arr ek r' cap false)) w' ∧ r'.len = r.len := by
  obtain ⟨g', hρ', h1, h2, h3, h4, h5, h6, h7, h8⟩ := hm.blk n _ (Mem.get_of_getW hget)
  obtain rfl : g' = g := by rw [hρ] at hρ'; simpa using hρ'.symm
  simp only [Option.bind_eq_some_iff] at happ
  obtain ⟨r1, e1, e2⟩ := happ
  have l1 := Row.cut_len r 0 i (by omega)
  have l2 := Row.cut_len r (i + s.len) (r.len - (i + s.len)) (by omega)
  have l3 := Row.app_len e1
  have l4 := Row.app_len e2
  have hlen : r'.len = r.len := by omega
  have hrow := rowR_iff.1 h6
  have c1 := hrow.cut 0 i
  have c2 := hrow.cut (i + s.len) (r.len - (i + s.len))
  have hrl : r.len * ek.sz = i * ek.sz + s.len * ek.sz + (r.len - (i + s.len)) * ek.sz := by rw [← Nat.add_mul, ← Nat.add_mul]; congr 1; omega
  refine ⟨StepR.write hm hget hρ hw.other hw.size hw.os hw.out hw.tape (fun j x hx => ?_) ⟨h1, by rw [h2, hlen], h3, h4, fun j hj => ?_, ?_, h7, h8⟩, hlen⟩
  · rw [hw.cell, if_neg ?_]
    · exact hm.imm _ _ _ hx
    · intro hj
      rw [h7 rfl j (by omega)] at hx; simp at hx
  · obtain ⟨⟨y, hy⟩, hu⟩ := h5 j hj
    refine ⟨?_, (hw.frz _).2 hu⟩
    rw [hw.cell]
    split
    · rename_i hj'
      have : g'.o + j - (g'.o + i * ek.sz) < cs.length := by omega
      exact ⟨_, by rw [List.getElem?_eq_getElem this]⟩
    · exact ⟨y, hy⟩
  · rw [rowR_iff]
    refine RowF.append (RowF.append (c1.congr (ExtN.refl _) (ExtI.refl _) fun j y hj hy => ?_) (hs.congr (ExtN.refl _) (ExtI.refl _) fun j y hj hy => ?_) e1) (c2.congr (ExtN.refl _) (ExtI.refl _) fun j y hj hy => ?_) e2
    · rw [l1] at hj
      rw [hw.cell, if_neg (by omega)]
      simpa using hy
    · rw [← hcs] at hj
      rw [hw.cell, l1, if_pos (by omega)]
      rw [show g'.o + (i * ek.sz + j) - (g'.o + i * ek.sz) = j by omega]; exact hy
    · rw [l3, l1]
      simp only [Nat.add_mul]
      simp only [Nat.add_mul] at hy
      rw [hw.cell, if_neg (by omega)]
      exact hy

theorem run_append_none {t u ty e : TypeId} {inf : TypeInfo} {td : TypeDesc} {tk : TK} {w : World} {ρ : Nm} {I : Im} {s : Row} {cs : List Value} {x : Value} {a : Option Addr} {sLen sCap : Nat}
    (ht : P.underlying t = some (.slice e)) (hu : P.underlying u = some td) (htd : ∀ k, td ≠ .int k) (htk : tkOf P e = some tk) (hi : P.info? e = some inf)
    (hsrc : SrcR P ρ I w tk.ek s x cs) (hs : s.len = 0) (hle : sLen ≤ sCap) : (Builtin.append_ #[t, u] ty #[.slice a sLen sCap, x]).run P w = .ok (.slice a sLen sCap) w := by
  have hek : tk.ek.sz = tk.size := by rw [TK.ek_eq]
  have hsz : inf.size = tk.size := by
    have := (tkOf_spec htk).1
    simp [Program.cellsOf, hi] at this
    omega
  have hfirst := hsrc.first 0 (Nat.zero_le _)
  have hlen := hsrc.len
  rw [hs] at hlen
  have := run_append_fits (P := P) (ty := ty) (w' := w) (a := a) (sLen := sLen) (sCap := sCap) ht hu htd hi hlen (news := []) (by rw [hsz, ← hek]; simpa using hfirst) (fun ad _ => rfl) (fun _ => rfl) (by omega)
  simpa using this

theorem appendR_sound {tk : TK} {bytes : Nat} {m : Mem} {dst : V} {s : Row} {k : V → Mem → Option R} {r : R} (h : appendR tk bytes m dst s k = some r) :
    ∃ v m', k v m' = some r ∧ ∀ {t u ty e : TypeId} {inf : TypeInfo} {td : TypeDesc}, P.underlying t = some (.slice e) → P.underlying u = some td → (∀ k, td ≠ .int k) → tkOf P e = some tk → P.info? e = some inf → inf.bytes = bytes → zeroOk inf tk.size = true →
      ∀ ρ I (cd x : Value) (cs : List Value) (w : World), MemR ρ I m w → ρ m.next = none → RV ρ I dst cd → SrcR P ρ I w tk.ek s x cs →
      ∃ c w' ρ', (Builtin.append_ #[t, u] ty #[cd, x]).run P w = .ok c w' ∧ RV ρ' I v c ∧ StepR ρ I m w ρ' I m' w' := by
  -- a new row
  have fresh : ∀ {r0 : Row} (k : V → Mem → Option R), freshC tk bytes m r0 s k = some r →
      ∃ v m', k v m' = some r ∧ ∀ {t u ty e : TypeId} {inf : TypeInfo} {td : TypeDesc}, P.underlying t = some (.slice e) → P.underlying u = some td → (∀ k, td ≠ .int k) → tkOf P e = some tk → P.info? e = some inf → inf.bytes = bytes → zeroOk inf tk.size = true →
      ∀ ρ I (cd x : Value) (cs : List Value) (w : World) a sCap b o, MemR ρ I m w → ρ m.next = none → SlR ρ I w tk.ek r0 cd a sCap b o → sCap < r0.len + s.len → SrcR P ρ I w tk.ek s x cs →
      ∃ c w' ρ', (Builtin.append_ #[t, u] ty #[cd, x]).run P w = .ok c w' ∧ RV ρ' I v c ∧ StepR ρ I m w ρ' I m' w' := by
    intro r0 k h
    unfold freshC at h
    split at h
    · rename_i r' happ
      cases hroom : roomy r'.len bytes with
      | false => simp [hroom] at h
      | true =>
        rw [hroom, cond_true] at h
        refine ⟨_, _, h, ?_⟩
        intro t u ty e inf td ht hu htd htk hi hb hz ρ I cd x cs w a sCap b o hm hn hsl hlt hsrc
        subst hb
        obtain ⟨olds, o1, o2, o3, o4, o5⟩ := hsl.cells (P := P)
        have hold := o5 w.drew rfl r0.len (Nat.le_refl _)
        rw [show olds.take (r0.len * tk.ek.sz) = olds by rw [← o1]; simp] at hold
        have hv := hsl.val
        subst hv
        exact step_grows hm hn ht hu htd htk hi hz hsrc olds o1 rfl o3 hold happ hroom hlt rfl (fun _ _ h _ => h) (fun _ e h => ⟨e, h⟩) (fun _ _ h => h) (fun _ _ h => h)
    · simp at h
  have capc : ∀ {r0 : Row} {cap : Option Nat}, capC tk bytes m dst r0 s cap k = some r →
      ∃ v m', k v m' = some r ∧ ∀ {t u ty e : TypeId} {inf : TypeInfo} {td : TypeDesc}, P.underlying t = some (.slice e) → P.underlying u = some td → (∀ k, td ≠ .int k) → tkOf P e = some tk → P.info? e = some inf → inf.bytes = bytes → zeroOk inf tk.size = true →
      ∀ ρ I (cd x : Value) (cs : List Value) (w : World) a sCap b o, MemR ρ I m w → ρ m.next = none → RV ρ I dst cd → SlR ρ I w tk.ek r0 cd a sCap b o → (∀ c, cap = some c → sCap = c) → SrcR P ρ I w tk.ek s x cs →
      ∃ c w' ρ', (Builtin.append_ #[t, u] ty #[cd, x]).run P w = .ok c w' ∧ RV ρ' I v c ∧ StepR ρ I m w ρ' I m' w' := by
    intro r0 cap h
    unfold capC at h
    split at h
    · rename_i hs
      refine ⟨_, _, h, ?_⟩
      intro t u ty e inf td ht hu htd htk hi hb hz ρ I cd x cs w a sCap b o hm hn hd hsl hc hsrc
      refine ⟨cd, w, ρ, ?_, hd, .refl hm⟩
      have hv := hsl.val
      subst hv
      exact run_append_none ht hu htd htk hi hsrc hs hsl.le
    · split at h
      · rename_i c
        split at h
        · rename_i hlt
          obtain ⟨v, m', hk, hf⟩ := fresh k h
          refine ⟨v, m', hk, ?_⟩
          intro t u ty e inf td ht hu htd htk hi hb hz ρ I cd x cs w a sCap b o hm hn hd hsl hc hsrc
          exact hf ht hu htd htk hi hb hz ρ I cd x cs w a sCap b o hm hn hsl (by rw [hc c rfl]; exact hlt) hsrc
        · simp at h
      · simp at h
  unfold appendR at h
  split at h
  · -- an own row
    rename_i n
    split at h
    · rename_i ek r0 cap frz hget
      cases he : EK.beq ek tk.ek with
      | false => simp [he] at h
      | true =>
        rw [he, cond_true] at h
        obtain rfl := EK.beq_eq he
        split at h
        · rename_i r' happ
          cases hroom : roomy r'.len bytes with
          | false => simp [hroom] at h
          | true =>
            rw [hroom, cond_true] at h
            refine ⟨_, _, h, ?_⟩
            intro t u ty e inf td ht hu htd htk hi hb hz ρ I cd x cs w hm hn hd hsrc
            subst hb
            obtain ⟨g, hρ, h1, h2, h3, h4, h5, h6, h7, h8⟩ := hm.blk n _ (Mem.get_of_getW hget)
            cases hd with | own _ g' hg' =>
            obtain rfl : g' = g := by rw [hρ] at hg'; simpa using hg'.symm
            have hlen := Row.app_len happ
            by_cases hfit : g'.len + s.len ≤ g'.cap
            · obtain ⟨w', hr, hw⟩ := step_fits (ty := ty) ht hu htd htk hi hsrc hfit h5
              have hst := step_inplace (lo := 0) (len := r0.len) (r0 := r0) hm hn hget hρ (by omega) rfl (by simpa using rowR_iff.1 h6) happ hsrc.size hsrc.row (by rw [← h2]; exact hw) (by omega)
              refine ⟨_, w', _, hr, ?_, hst⟩
              have := RV.own (ρ := ρ.set m.next ⟨g'.b, g'.o + 0 * tk.ek.sz, tk.ek.sz, r'.len, g'.cap - 0⟩) (I := I) m.next ⟨g'.b, g'.o + 0 * tk.ek.sz, tk.ek.sz, r'.len, g'.cap - 0⟩ (by simp [Nm.set])
              simpa [hlen, h2] using this
            · obtain ⟨d1, d2, d3, d4⟩ := del_facts hget
              have hsl : SlR ρ I w tk.ek r0 (.slice (some ⟨g'.b, g'.o, none⟩) r0.len g'.cap) (some ⟨g'.b, g'.o, none⟩) g'.cap g'.b g'.o :=
                ⟨rfl, by omega, by simp, by intro ad e _; simp at e; exact e.symm, rowR_iff.1 h6⟩
              obtain ⟨olds, o1, o2, o3, o4, o5⟩ := hsl.cells (P := P)
              have hold := o5 w.drew rfl r0.len (Nat.le_refl _)
              rw [show olds.take (r0.len * tk.ek.sz) = olds by rw [← o1]; simp] at hold
              rw [h2] at hfit ⊢
              exact step_grows hm hn ht hu htd htk hi hz hsrc olds o1 rfl o3 hold happ hroom (by omega) rfl d1 d2 (fun n' b h => (d3 n' b h).1) d4
        · simp at h
    · simp at h
  · -- a part of a row, its capacity known
    rename_i n lo len c
    split at h
    · rename_i ek r0 cap frz hget
      cases he : EK.beq ek tk.ek with
      | false => simp [he] at h
      | true =>
        rw [he, cond_true] at h
        obtain rfl := EK.beq_eq he
        obtain ⟨v, m', hk, hf⟩ := capc h
        refine ⟨v, m', hk, ?_⟩
        intro t u ty e inf td ht hu htd htk hi hb hz ρ I cd x cs w hm hn hd hsrc
        obtain ⟨g, hρ, h1, h2, h3, h4, h5, h6, h7, h8⟩ := hm.blk n _ hget
        have hd' := hd
        cases hd with | osl _ _ _ _ g' ad c' hg' a1 a2 a3 a4 a5 a6 =>
        obtain rfl : g' = g := by rw [hρ] at hg'; simpa using hg'.symm
        have hlen := Row.cut_len r0 lo len (by omega)
        refine hf ht hu htd htk hi hb hz ρ I _ x cs w (some ad) c' g'.b (g'.o + lo * g'.sz) hm hn hd' ⟨by rw [hlen], by omega, by simp, ?_, ?_⟩ (fun c0 e0 => a5 c0 e0) hsrc
        · intro ad' e hne; simp at e; subst e
          exact a3 (by rintro rfl; rw [hlen, show len = 0 by omega] at hne; simp at hne)
        · have := (rowR_iff.1 h6).cut lo len
          rw [h1]
          simpa only [Nat.add_assoc] using this
    · simp at h
  · -- a part of a row
    rename_i n lo len
    split at h
    · rename_i hs
      refine ⟨_, _, h, ?_⟩
      intro t u ty e inf td ht hu htd htk hi hb hz ρ I cd x cs w hm hn hd hsrc
      refine ⟨cd, w, ρ, ?_, hd, .refl hm⟩
      cases hd with | osl _ _ _ _ g' ad c' hg' a1 a2 a3 a4 a5 a6 =>
      exact run_append_none ht hu htd htk hi hsrc hs a2
    · rename_i hs
      split at h
      · rename_i ek r0 cap frz hget
        cases he : EK.beq ek tk.ek with
        | false => simp [he] at h
        | true =>
          rw [he, cond_true] at h
          obtain rfl := EK.beq_eq he
          split at h
          · rename_i hle
            split at h
            · rename_i r' happ
              refine ⟨_, _, h, ?_⟩
              intro t u ty e inf td ht hu htd htk hi hb hz ρ I cd x cs w hm hn hd hsrc
              obtain ⟨g, hρ, h1, h2, h3, h4, h5, h6, h7, h8⟩ := hm.blk n _ (Mem.get_of_getW hget)
              cases hd with | osl _ _ _ _ g' ad c' hg' a1 a2 a3 a4 a5 a6 =>
              obtain rfl : g' = g := by rw [hρ] at hg'; simpa using hg'.symm
              have hc := a4 rfl
              rw [a3 (by omega)]
              have hcap : (lo + c') * tk.ek.sz = g'.cap * tk.ek.sz := by rw [hc]
              rw [Nat.add_mul] at hcap
              obtain ⟨w', hr, hw⟩ := step_fits (ty := ty) (b := g'.b) (o := g'.o + lo * g'.sz) (sLen := len) (sCap := c') ht hu htd htk hi hsrc (by omega) (fun j hj => by
                have := h5 (lo * tk.ek.sz + j) (by omega)
                rw [h1, Nat.add_assoc]; exact this)
              have hw' : WroteR w w' g'.b (g'.o + (lo + len) * tk.ek.sz) cs := by
                rw [Nat.add_mul, ← Nat.add_assoc, ← h1]; rw [← h1] at hw; exact hw
              obtain ⟨hst, hrl⟩ := step_putRow hm hget hρ hle happ hsrc.size hsrc.row hw'
              refine ⟨_, w', ρ, hr, ?_, hst⟩
              exact .osl n lo (len + s.len) none g' _ c' hρ (by omega) (by omega) (fun _ => rfl) (fun _ => hc) (by simp) a6
            · simp at h
          · split at h
            · rename_i hle
              split at h
              · rename_i r' happ
                cases hroom : roomy r'.len bytes with
                | false => simp [hroom] at h
                | true =>
                  rw [hroom, cond_true] at h
                  refine ⟨_, _, h, ?_⟩
                  intro t u ty e inf td ht hu htd htk hi hb hz ρ I cd x cs w hm hn hd hsrc
                  subst hb
                  obtain ⟨g, hρ, h1, h2, h3, h4, h5, h6, h7, h8⟩ := hm.blk n _ (Mem.get_of_getW hget)
                  cases hd with | osl _ _ _ _ g' ad c' hg' a1 a2 a3 a4 a5 a6 =>
                  obtain rfl : g' = g := by rw [hρ] at hg'; simpa using hg'.symm
                  have hc := a4 rfl
                  have hlen := Row.app_len happ
                  have hcl := Row.cut_len r0 lo len (by omega)
                  have hrow0 : RowF ρ I (fun j => cellAt w g'.b (g'.o + lo * tk.ek.sz + j)) tk.ek (r0.cut lo len) := by
                    have := (rowR_iff.1 h6).cut lo len
                    simpa only [Nat.add_assoc] using this
                  have hcap : (lo + c') * tk.ek.sz = g'.cap * tk.ek.sz := by rw [hc]
                  rw [Nat.add_mul] at hcap
                  by_cases hfit : len + s.len ≤ c'
                  · rw [a3 (by omega)]
                    obtain ⟨w', hr, hw⟩ := step_fits (ty := ty) (b := g'.b) (o := g'.o + lo * g'.sz) (sLen := len) (sCap := c') ht hu htd htk hi hsrc hfit (fun j hj => by
                      have := h5 (lo * tk.ek.sz + j) (by omega)
                      rw [h1, Nat.add_assoc]; exact this)
                    have hw' : WroteR w w' g'.b (g'.o + r0.len * tk.ek.sz) cs := by
                      rw [← hle, Nat.add_mul, ← Nat.add_assoc, ← h1]; rw [← h1] at hw; exact hw
                    have hst := step_inplace (lo := lo) (len := len) hm hn hget hρ hle hcl hrow0 happ hsrc.size hsrc.row hw' (by omega)
                    refine ⟨_, w', _, hr, ?_, hst⟩
                    have := RV.own (ρ := ρ.set m.next ⟨g'.b, g'.o + lo * tk.ek.sz, tk.ek.sz, r'.len, g'.cap - lo⟩) (I := I) m.next ⟨g'.b, g'.o + lo * tk.ek.sz, tk.ek.sz, r'.len, g'.cap - lo⟩ (by simp [Nm.set])
                    simp only [hlen, hcl] at this ⊢
                    rw [show g'.cap - lo = c' by omega] at this
                    rw [h1, show g'.cap - lo = c' by omega]; exact this
                  · obtain ⟨d1, d2, d3, d4⟩ := del_facts hget
                    have hsl : SlR ρ I w tk.ek (r0.cut lo len) (.slice (some ad) (r0.cut lo len).len c') (some ad) c' g'.b (g'.o + lo * tk.ek.sz) :=
                      ⟨rfl, by omega, by simp, by
                        intro ad' e hne; simp at e; subst e
                        rw [a3 (by rintro rfl; rw [hcl, show len = 0 by omega] at hne; simp at hne), h1], hrow0⟩
                    obtain ⟨olds, o1, o2, o3, o4, o5⟩ := hsl.cells (P := P)
                    have hold := o5 w.drew rfl _ (Nat.le_refl _)
                    rw [show olds.take ((r0.cut lo len).len * tk.ek.sz) = olds by rw [← o1]; simp] at hold
                    rw [hcl] at hold o1
                    exact step_grows hm hn ht hu htd htk hi hz hsrc olds o1 hcl o3 hold happ hroom (by omega) rfl d1 d2 (fun n' b h => (d3 n' b h).1) d4
              · simp at h
            · simp at h
      · simp at h
  · -- nil
    have main : ∀ (r0 : Row), r0.len = 0 → (∀ ρ I c, RowF ρ I c tk.ek r0) → (if s.len = 0 then k (.d .nils) m else freshC tk bytes m r0 s k) = some r →
        ∃ v m', k v m' = some r ∧ ∀ {t u ty e : TypeId} {inf : TypeInfo} {td : TypeDesc}, P.underlying t = some (.slice e) → P.underlying u = some td → (∀ k, td ≠ .int k) → tkOf P e = some tk → P.info? e = some inf → inf.bytes = bytes → zeroOk inf tk.size = true →
        ∀ ρ I (cd x : Value) (cs : List Value) (w : World), MemR ρ I m w → ρ m.next = none → RV ρ I (.d .nils) cd → SrcR P ρ I w tk.ek s x cs →
        ∃ c w' ρ', (Builtin.append_ #[t, u] ty #[cd, x]).run P w = .ok c w' ∧ RV ρ' I v c ∧ StepR ρ I m w ρ' I m' w' := by
      intro r0 hr0 hrow h
      split at h
      · rename_i hs
        refine ⟨_, _, h, ?_⟩
        intro t u ty e inf td ht hu htd htk hi hb hz ρ I cd x cs w hm hn hd hsrc
        refine ⟨cd, w, ρ, ?_, hd, .refl hm⟩
        cases hd with | d _ _ hd => cases hd; exact run_append_none ht hu htd htk hi hsrc hs (Nat.le_refl _)
      · rename_i hs
        obtain ⟨v, m', hk, hf⟩ := fresh k h
        refine ⟨v, m', hk, ?_⟩
        intro t u ty e inf td ht hu htd htk hi hb hz ρ I cd x cs w hm hn hd hsrc
        cases hd with | d _ _ hd => cases hd; exact hf ht hu htd htk hi hb hz ρ I _ x cs w none 0 0 0 hm hn ⟨by rw [hr0], by omega, by simp, by simp, hrow _ _ _⟩ (by omega) hsrc
    cases tk with
    | int ik => exact main (.is ik []) rfl (fun ρ I c => ⟨rfl, by intro i e he; simp at he⟩) h
    | _ => exact main (.ds []) rfl (fun ρ I c => by intro i e he; simp at he) h
  · rename_i ik l cap
    cases he : EK.beq ⟨false, 1⟩ tk.ek with
    | false => simp [he] at h
    | true =>
      rw [he, cond_true] at h
      have he := EK.beq_eq he
      obtain ⟨v, m', hk, hf⟩ := capc h
      refine ⟨v, m', hk, ?_⟩
      intro t u ty e inf td ht hu htd htk hi hb hz ρ I cd x cs w hm hn hd hsrc
      have hd' := hd
      cases hd with | d _ _ hd =>
      cases hd with | is _ _ _ a c h1 h2 h3 =>
      refine hf ht hu htd htk hi hb hz ρ I _ x cs w (some a) c a.block a.off hm hn hd' ⟨rfl, h1, by simp, ?_, by rw [← he]; exact lf_is hm h3⟩ (fun c0 e0 => h2 c0 e0) hsrc
      intro ad e hne
      simp at e; subst e
      have h0 : 0 < l.length := Nat.pos_of_ne_zero fun e => by simp only [Row.len, e] at hne; simp at hne
      have := (h3 0 l[0] (by simp [h0])).1
      cases a; simp at this ⊢; exact this
  · rename_i ek l cap
    cases he : EK.beq ek tk.ek with
    | false => simp [he] at h
    | true =>
      rw [he, cond_true] at h
      obtain rfl := EK.beq_eq he
      obtain ⟨v, m', hk, hf⟩ := capc h
      refine ⟨v, m', hk, ?_⟩
      intro t u ty e inf td ht hu htd htk hi hb hz ρ I cd x cs w hm hn hd hsrc
      have hd' := hd
      cases hd with | d _ _ hd =>
      cases hd with | sl _ _ _ a c y h1 h2 h3 h4 h5 =>
      refine hf ht hu htd htk hi hb hz ρ I _ x cs w (some a) c a.block a.off hm hn hd' ⟨rfl, h1, by simp, ?_, lf_sl hm h3 h4 h5⟩ (fun c0 e0 => h2 c0 e0) hsrc
      intro ad e hne
      simp at e; subst e
      simp only [Row.len] at hne
      have hz : 0 < l.length := Nat.pos_of_ne_zero fun e => by rw [e] at hne; simp at hne
      have hs : 0 < tk.ek.sz := Nat.pos_of_ne_zero fun e => by rw [e] at hne; simp at hne
      have e0 : l[0]? = some l[0] := List.getElem?_eq_getElem hz
      have hc : 0 < l[0].cells.length := by rw [← D.nc_cells, (h3 0 _ e0).1]; exact hs
      have := (h4 0 _ 0 _ e0 (List.getElem?_eq_getElem hc)).1
      cases a; simp at this ⊢; exact this
  · simp at h

end Go.Ab
