/- Regions that draw their order: an effect. -/
import Derived.Test.YtecfekfenhacpaaGreatAbDraw2
namespace Go.Ab
open Go
set_option linter.unusedVariables false
set_option linter.unusedSimpArgs false
variable {R : Type} {P : Program}
section
variable {ops : Array Oper} {bf : Array Nat} {pl : List Nat} {nt : Nat} {ρ0 : Nm} {I0 : Im} {mem0 : Mem} {w0 : World}
  {pre : List Nat} {made read : List (Nat × List Nat)} {fr : Frame} {mE : Mem} {ps : List Pd} {listed : Array Bool} {a : Act} {w : World} {ρ : Nm} {I : Im}

theorem Inv.eff {J : Option R → Option R → Option R} {call : Caller R} (hJ : Joins J) (hcall : CallS P call) {r : R}
    (h : Inv P ops bf pl nt ρ0 I0 mem0 w0 pre made read fr mE ps listed a w ρ I) {q : Nat} {o : Oper} (ho : ops[q]? = some o) (hqpre : q ∉ pre) (hqsz : q < ops.size)
    (hrc : ∀ k, k ∈ pl → (bf.getD q 0).testBit k = true → listed[k]? = some true) (hprepl : ∀ k, k ∈ pre → k ∈ pl)
    (hpre : ∀ p, p ∈ pre → ∃ op, ops[p]? = some op ∧ (∀ s, op.dst = some s → o.dst ≠ some s) ∧ (∀ s, op.dst = some s → s ∈ looks ops o → (bf.getD q 0).testBit p = true) ∧ (∀ s, o.dst = some s → s ∈ looks ops op → (bf.getD q 0).testBit p = true))
    (hdst : ∀ s, o.dst = some s → s < nt) {hide ro : List Nat} (hhide : hide = pickBefore (bf.getD q 0) made) (hro : ro = pickBefore (bf.getD q 0) read)
    {kk : Res → Mem → Option R} (hg : guardedC P J call ops (cutF fr (looks ops o)) (mE.mark hide ro) o kk = some r) {bret bpan : Mem → Mem}
    (hb1 : ∀ m1, (∀ n e, getEnt (mE.mark hide ro).l n = some e → (e.ro = true ∨ e.hid = true) → getEnt m1.l n = some e) → Back mE m1 (bret m1) hide ro [])
    (hb2 : ∀ m1, (∀ n e, getEnt (mE.mark hide ro).l n = some e → (e.ro = true ∨ e.hid = true) → getEnt m1.l n = some e) → Back mE m1 (bpan m1) hide ro hide)
    {K : Act → World → Prop} {Q : Exit → Act → World → Prop}
    (hK : ∀ v m1 a' w' ρ' I', kk (.ret v) m1 = some r → Inv P ops bf pl nt ρ0 I0 mem0 w0 (q :: pre) made read (fr.put o.dst v) (bret m1) ps (listed.setIfInBounds q true) a' w' ρ' I' → K a' w')
    (hQ : ∀ v c m1 w' ρ' I', kk (.pan v) m1 = some r → StepR ρ0 I0 mem0 w0 ρ' I' (bpan m1) w' → FrameR ρ' I' (dropDst ops.toList fr) a.tmps → RV ρ' I' v c → Q (.panic [{ v := c, recovered := false }]) a w') :
    wpOp P ops Q q K a w := by
  have notpend : ∀ x, x ∈ ps → (bf.getD q 0).testBit x.i = true → False := fun x hx hb => by
    have := hrc x.i (hprepl _ (h.pend x hx)) hb
    exact ((h.lst x.i).1 this).2 x hx rfl
  have unord : ∀ x, x ∈ ps → (bf.getD q 0).testBit x.i = false := fun x hx => by
    cases hb : (bf.getD q 0).testBit x.i with
    | false => rfl
    | true => exact (notpend x hx hb).elim
  have hpn : ∀ n, n ∈ pn ps → n ∈ hide := by
    intro n hn
    obtain ⟨x, hx, hn⟩ := pn_iff.1 hn
    obtain ⟨h1, e, h2⟩ := Pd.names_iff.1 hn
    obtain ⟨_, _, y, y1, y2, y3⟩ := (h.pok x hx).new n e h1 h2
    rw [hhide]
    exact pickBefore_iff.2 ⟨y, y1, by rw [y2]; exact unord x hx, y3⟩
  have hwf := h.wf
  have hmmwf : ∀ n e, getEnt (mE.mark hide ro).l n = some e → n < (mE.mark hide ro).next := by
    intro n e he
    rw [mark_ent] at he
    cases hme : getEnt mE.l n with
    | none => rw [hme] at he; simp at he
    | some e0 => exact hwf n e0 hme
  have hsub : ∀ n b, (mE.mark hide ro).get n = some b → (mE.mark (pn ps) []).get n = some b := fun n b hb => by
    obtain ⟨h1, h2⟩ := mark_get.1 hb
    exact mark_get.2 ⟨h1, fun hn => h2 (hpn n hn)⟩
  have hsubW : ∀ n b, (mE.mark hide ro).getW n = some b → (mE.mark (pn ps) []).getW n = some b := fun n b hb => by
    obtain ⟨h1, h2, h3⟩ := mark_getW.1 hb
    exact mark_getW.2 ⟨h1, fun hn => h2 (hpn n hn), by simp⟩
  have hm0 : MemR ρ I (mE.mark hide ro) w := h.step.mem.sub hsub hmmwf
  have hfresh : Fresh ρ (mE.mark hide ro) := by
    intro n hn
    have hn : mE.next ≤ n := hn
    cases hr : ρ n with
    | none => rfl
    | some g =>
      rcases h.names n g hr with hr' | hr'
      · rw [h.fresh0 n (Nat.le_trans h.next hn)] at hr'; simp at hr'
      · omega
  have hf0 : FrameR ρ I (cutF fr (looks ops o)) a.tmps := by
    intro s v hs
    obtain ⟨h1, h2⟩ := cutF_get hs
    refine h.frame s v h1 fun x hx ox hox hdx => ?_
    obtain ⟨oy, hoy, d1, d2, d3⟩ := hpre x.i (h.pend x hx)
    obtain rfl : oy = ox := by rw [hox] at hoy; simpa using hoy.symm
    exact notpend x hx (d2 s hdx h2)
  have hfreshR : ∀ {ρ' : Nm} {I' : Im} {m1 : Mem} {w' : World}, StepR ρ I (mE.mark hide ro) w ρ' I' m1 w' → ∀ n g, ρ' n = some g → ρ0 n = some g ∨ (mem0.next ≤ n ∧ n < m1.next) := by
    intro ρ' I' m1 w' hst n g hn
    have hnx : mE.next ≤ m1.next := hst.next
    rcases hst.names n g hn with hn | hn
    · rcases h.names n g hn with hn | hn
      · exact .inl hn
      · exact .inr ⟨hn.1, Nat.lt_of_lt_of_le hn.2 hnx⟩
    · exact .inr ⟨Nat.le_trans h.next hn.1, hn.2⟩
  have main : ∀ {next : Act → World → Prop}, (∀ v c m1 ρ' I' w', kk (.ret v) m1 = some r → RV ρ' I' v c → StepR ρ I (mE.mark hide ro) w ρ' I' m1 w' → next (a.put o.dst c) w') →
      (∀ v c m1 ρ' I' w', kk (.pan v) m1 = some r → RV ρ' I' v c → StepR ρ I (mE.mark hide ro) w ρ' I' m1 w' → Q (.panic [{ v := c, recovered := false }]) a w') → wpOp P ops Q q next a w := by
    intro next hn hp
    have := guardedC_sound hJ hcall hg hm0 hfresh hf0 (next := next) (Q := Q) hn hp
    unfold wpOp
    rw [ho]
    simp only
    split
    · rename_i hw; rw [if_pos hw] at this; exact .inl this
    · rename_i hw; rw [if_neg hw] at this; exact this
  refine main (fun v c m1 ρ' I' w' hk hv hst => ?_) (fun v c m1 ρ' I' w' hk hv hst => ?_)
  · -- it returns
    have hb := hb1 m1 hst.keep
    have hnx : mE.next ≤ (bret m1).next := by rw [hb.next]; exact hst.next
    have kept : ∀ n e, getEnt mE.l n = some e → (n ∈ hide ∨ n ∈ ro ∨ e.ro = true ∨ e.hid = true) → getEnt (bret m1).l n = some e := by
      intro n e he hf
      rw [hb.was n e he hf]
      have := getEnt_name he
      subst this
      simp [hasN_nil, hasN_cons]
    have back : ∀ n e', getEnt (bret m1).l n = some e' → n ∉ pn ps → (getEnt m1.l n = some e') ∨ (getEnt mE.l n = some e' ∧ (mE.mark hide ro).getW n = none) := by
      intro n e' he' hn
      rcases hb.old n e' he' with h1 | ⟨h1, e, h2⟩
      · exact .inl h1
      · right
        have := kept n e h2 (h1.elim .inl fun h => .inr (.inl h))
        rw [this] at he'; simp at he'; subst he'
        refine ⟨h2, ?_⟩
        cases hw : (mE.mark hide ro).getW n with
        | none => rfl
        | some b2 =>
          obtain ⟨_, x1, x2⟩ := mark_getW.1 hw
          exact (h1.elim x1 x2).elim
    have hstepC : StepC ρ I (mE.mark (pn ps) []) w ρ' I' ((bret m1).mark (pn ps) []) w' := by
      refine StepC.frame h.step.mem hsub hsubW hst (fun n b hx => ?_) (fun n b hx => ?_) (fun n e he => ?_)
      · obtain ⟨h1, h2⟩ := mark_get.1 hx
        obtain ⟨e', e1, e2, e3⟩ := Mem.get_iff.1 h1
        rcases back n e' e1 h2 with h3 | ⟨h3, h4⟩
        · exact .inl (Mem.get_iff.2 ⟨e', h3, e2, e3⟩)
        · exact .inr ⟨mark_get.2 ⟨Mem.get_iff.2 ⟨e', h3, e2, e3⟩, h2⟩, h4⟩
      · obtain ⟨h1, h2, _⟩ := mark_getW.1 hx
        obtain ⟨e', e1, e2, e3, e4⟩ := Mem.getW_iff.1 h1
        rcases back n e' e1 h2 with h3 | ⟨h3, h4⟩
        · exact .inl (Mem.getW_iff.2 ⟨e', h3, e2, e3, e4⟩)
        · exact .inr (mark_getW.2 ⟨Mem.getW_iff.2 ⟨e', h3, e2, e3, e4⟩, h2, by simp⟩)
      · rw [mark_ent] at he
        cases hme : getEnt (bret m1).l n with
        | none => rw [hme] at he; simp at he
        | some e0 =>
          obtain ⟨e1, h1⟩ := hb.dom n e0 hme
          have := hst.mem.wf n e1 h1
          show n < (bret m1).next
          rw [hb.next]; exact this
    have hfrput' : ∀ s u, o.dst ≠ some s → fr.get s = some u → (fr.put o.dst v).get s = some u := by
      intro s u hs hu
      cases hd : o.dst with
      | none => simpa [Frame.put] using hu
      | some d =>
        rw [hd] at hs
        simp only [Frame.put, Frame.get_set]
        rw [if_neg (fun e => hs (by rw [e]))]; exact hu
    refine hK v m1 _ w' ρ' I' hk ⟨by simp [h.size], ?_, ?_, h.uniq, ?_, h.step.trans hstepC, ?_, Nat.le_trans h.next hnx, ?_, ?_, by rw [put_size]; exact h.tsz, by rw [put_defers]; exact h.dfs, ?_, ?_, h.dis, h.cross, h.mnew, h.fresh0, h.wf0⟩
    · intro i
      rw [getElem?_set_bool _ _ _ (by rw [h.size]; exact hqsz), h.lst i]
      constructor
      · rintro (rfl | ⟨h1, h2⟩)
        · exact ⟨List.mem_cons_self, fun x hx e => hqpre (e ▸ h.pend x hx)⟩
        · exact ⟨List.mem_cons_of_mem _ h1, h2⟩
      · rintro ⟨h1, h2⟩
        rcases List.mem_cons.1 h1 with rfl | h1
        · exact .inl rfl
        · exact .inr ⟨h1, h2⟩
    · intro x hx; exact List.mem_cons_of_mem _ (h.pend x hx)
    · intro i k hi hk hb
      rw [getElem?_set_bool _ _ _ (by rw [h.size]; exact hqsz)] at hi ⊢
      rcases hi with rfl | hi
      · exact .inr (hrc k hk hb)
      · exact .inr (h.closed i k hi hk hb)
    · intro n g hn; rw [hb.next]; exact hfreshR hst n g hn
    · intro n e he hf
      exact kept n e (h.keep n e he hf) (.inr (.inr hf))
    · intro s u hs hns
      by_cases hsd : o.dst = some s
      · simp only [Frame.put, hsd, Frame.get_set, if_pos] at hs
        simp at hs; subst hs
        refine ⟨c, ?_, hv⟩
        simp [Act.put, hsd, h.tsz, hdst s hsd]
      · have hs' : fr.get s = some u := by
          cases hd : o.dst with
          | none => simpa [Frame.put, hd] using hs
          | some d =>
            rw [hd] at hs hsd
            simp only [Frame.put, Frame.get_set] at hs
            rwa [if_neg (fun e => hsd (by rw [e]))] at hs
        obtain ⟨y, hy, hr⟩ := h.frame s u hs' hns
        refine ⟨y, ?_, hr.mono hst.ext hst.exi⟩
        cases hod : o.dst with
        | none => simpa [Act.put, hod] using hy
        | some d =>
          have hne : d ≠ s := fun e => hsd (by rw [hod, e])
          simp only [Act.put, Array.getElem?_setIfInBounds]
          rw [if_neg hne]; exact hy
    · intro x hx
      obtain ⟨⟨ox, hox, b1, b2, b3, b4⟩, b5, b6, b7, b8, b9⟩ := h.pok x hx
      obtain ⟨oy, hoy, d1, d2, d3⟩ := hpre x.i (h.pend x hx)
      obtain rfl : oy = ox := by rw [hox] at hoy; simpa using hoy.symm
      refine ⟨⟨oy, hox, b1, b2, fun s u hs => ?_, fun s hs => ?_⟩, fun n e he => ?_, b6, b7, Nat.lt_of_lt_of_le b8 hnx, fun n e hn he => ?_⟩
      · obtain ⟨c1, c2⟩ := b3 s u hs
        exact ⟨hfrput' s u (fun e => notpend x hx (d3 s e c2)) c1, c2⟩
      · exact hfrput' s _ (d1 s hs) (b4 s hs)
      · obtain ⟨c1, c2, c3, ⟨e', c4, c5, c6⟩, y, y1, y2, y3⟩ := b5 n e he
        refine ⟨c1, c2, c3, ⟨e', kept n e' c4 (.inr (.inl ?_)), c5, c6⟩, y, y1, y2, y3⟩
        rw [hro]
        exact pickBefore_iff.2 ⟨y, y1, by rw [y2]; exact unord x hx, y3⟩
      · obtain ⟨c1, c2, y, y1, y2, y3⟩ := b9 n e hn he
        refine ⟨c1, kept n e c2 (.inl ?_), y, y1, y2, y3⟩
        rw [hhide]
        exact pickBefore_iff.2 ⟨y, y1, by rw [y2]; exact unord x hx, y3⟩
    · intro x hx n h1 h2
      cases hn : ρ' n with
      | none => rfl
      | some g =>
        rcases hst.names n g hn with hn | hn
        · rw [h.rng x hx n h1 h2] at hn; simp at hn
        · have h3 : mE.next ≤ n := hn.1
          have := (h.pok x hx).hi
          omega
  · -- it panics
    have hb := hb2 m1 hst.keep
    have hstepC : StepC ρ I (mE.mark (pn ps) []) w ρ' I' (bpan m1) w' := by
      have back : ∀ n e', getEnt (bpan m1).l n = some e' → e'.hid = false → (getEnt m1.l n = some e') ∨ (getEnt mE.l n = some e' ∧ n ∉ pn ps ∧ (mE.mark hide ro).getW n = none) := by
        intro n e' he' hhid
        rcases hb.old n e' he' with h1 | ⟨h1, e, h2⟩
        · exact .inl h1
        · right
          have := hb.was n e h2 (h1.elim .inl fun h => .inr (.inl h))
          rw [this] at he'; simp at he'; subst he'
          simp only [Bool.or_eq_false_iff] at hhid
          have hnh : n ∉ hide := fun hm => by rw [hasN_iff.2 hm] at hhid; simp at hhid
          refine ⟨?_, fun hm => hnh (hpn n hm), ?_⟩
          · rw [h2]
            have := getEnt_name h2
            subst this
            simp [hhid.2]
          · cases hw : (mE.mark hide ro).getW n with
            | none => rfl
            | some b2 =>
              obtain ⟨_, x1, x2⟩ := mark_getW.1 hw
              exact (h1.elim x1 x2).elim
      refine StepC.frame h.step.mem hsub hsubW hst (fun n b hx => ?_) (fun n b hx => ?_) (fun n e he => ?_)
      · obtain ⟨e', e1, e2, e3⟩ := Mem.get_iff.1 hx
        rcases back n e' e1 e3 with h3 | ⟨h3, h5, h4⟩
        · exact .inl (Mem.get_iff.2 ⟨e', h3, e2, e3⟩)
        · exact .inr ⟨mark_get.2 ⟨Mem.get_iff.2 ⟨e', h3, e2, e3⟩, h5⟩, h4⟩
      · obtain ⟨e', e1, e2, e3, e4⟩ := Mem.getW_iff.1 hx
        rcases back n e' e1 e3 with h3 | ⟨h3, h5, h4⟩
        · exact .inl (Mem.getW_iff.2 ⟨e', h3, e2, e3, e4⟩)
        · exact .inr (mark_getW.2 ⟨Mem.getW_iff.2 ⟨e', h3, e2, e3, e4⟩, h5, by simp⟩)
      · obtain ⟨e1, h1⟩ := hb.dom n e he
        rw [hb.next]; exact hst.mem.wf n e1 h1
    refine hQ v c m1 w' ρ' I' hk ⟨h.step.trans hstepC, ?_, ?_, ?_⟩ ?_ hv
    · rw [hb.next]; exact Nat.le_trans h.next hst.next
    · intro n g hn; rw [hb.next]; exact hfreshR hst n g hn
    · intro n e he hf
      have h1 := h.keep n e he hf
      have h2 := hb.was n e h1 (.inr (.inr hf))
      rw [h2]
      have hlt := h.wf0 n e he
      have hnh : hasN n hide = false := by
        cases hx : hasN n hide with
        | false => rfl
        | true =>
          have hm := hasN_iff.1 hx
          rw [hhide] at hm
          obtain ⟨x, x1, x2, x3⟩ := pickBefore_iff.1 hm
          have := h.mnew x x1 n x3
          omega
      have := getEnt_name he
      subst this
      simp [hnh]
    · intro s u hs
      obtain ⟨h1, h2⟩ := dropDst_get hs
      obtain ⟨y, hy, hr⟩ := h.frame s u h1 fun x hx ox hox hdx => h2 ox (by
        have := Array.mem_of_getElem? hox
        simpa using this) hdx
      exact ⟨y, hy, hr.mono hst.ext hst.exi⟩

end
end Go.Ab
