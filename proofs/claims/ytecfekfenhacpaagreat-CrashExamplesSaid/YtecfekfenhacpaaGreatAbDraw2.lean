/- Regions that draw their order: what holds while the model takes its operations in any order. -/
import Derived.Test.YtecfekfenhacpaaGreatAbDraw1
namespace Go.Ab
open Go
set_option linter.unusedVariables false
set_option linter.unusedSimpArgs false
variable {R : Type} {P : Program}

/-- an operation that the evaluator has done and the model has not. -/
structure Pd where
  i : Nat
  v : V
  m0 : Mem
  m1 : Mem
  fr : Frame

def Pd.names (p : Pd) : List Nat := entNames (newEnts p.m0.next p.m1.l)
def pn (ps : List Pd) : List Nat := ps.flatMap Pd.names

theorem Pd.names_iff {p : Pd} {n : Nat} : n ∈ p.names ↔ p.m0.next ≤ n ∧ ∃ e, getEnt p.m1.l n = some e := by
  unfold Pd.names
  rw [entNames_iff, newEnts_get]
  split
  · rename_i h; simp [h]
  · rename_i h; simp [h]

theorem pn_iff {ps : List Pd} {n : Nat} : n ∈ pn ps ↔ ∃ p, p ∈ ps ∧ n ∈ p.names := by simp [pn]

structure PdOk (P : Program) (ops : Array Oper) (lo0 : Nat) (made read : List (Nat × List Nat)) (fr : Frame) (mE : Mem) (p : Pd) : Prop where
  op : ∃ o, ops[p.i]? = some o ∧ isE o.op = false ∧ nonE P ops p.fr p.m0 o = some (p.v, p.m1) ∧ (∀ s v, p.fr.get s = some v → fr.get s = some v ∧ s ∈ looks ops o) ∧ (∀ s, o.dst = some s → fr.get s = some p.v)
  rd : ∀ n e, getEnt p.m0.l n = some e → e.ro = true ∧ e.hid = false ∧ n < p.m0.next ∧ (∃ e', getEnt mE.l n = some e' ∧ e'.b = e.b ∧ e'.hid = false) ∧ ∃ x, x ∈ read ∧ x.1 = p.i ∧ n ∈ x.2
  lo : lo0 ≤ p.m0.next
  le : p.m0.next ≤ p.m1.next
  hi : p.m1.next < mE.next
  new : ∀ n e, p.m0.next ≤ n → getEnt p.m1.l n = some e → n ≤ p.m1.next ∧ getEnt mE.l n = some e ∧ ∃ x, x ∈ made ∧ x.1 = p.i ∧ n ∈ x.2

structure Inv (P : Program) (ops : Array Oper) (bf : Array Nat) (pl : List Nat) (nt : Nat) (ρ0 : Nm) (I0 : Im) (mem0 : Mem) (w0 : World)
    (pre : List Nat) (made read : List (Nat × List Nat)) (fr : Frame) (mE : Mem) (ps : List Pd) (listed : Array Bool) (a : Act) (w : World) (ρ : Nm) (I : Im) : Prop where
  size : listed.size = ops.size
  lst : ∀ i, listed[i]? = some true ↔ i ∈ pre ∧ ∀ p, p ∈ ps → p.i ≠ i
  pend : ∀ p, p ∈ ps → p.i ∈ pre
  uniq : ∀ p q, p ∈ ps → q ∈ ps → p.i = q.i → p = q
  closed : ∀ i k, listed[i]? = some true → k ∈ pl → (bf.getD i 0).testBit k = true → listed[k]? = some true
  step : StepC ρ0 I0 mem0 w0 ρ I (mE.mark (pn ps) []) w
  names : ∀ n g, ρ n = some g → ρ0 n = some g ∨ (mem0.next ≤ n ∧ n < mE.next)
  next : mem0.next ≤ mE.next
  keep : ∀ n e, getEnt mem0.l n = some e → (e.ro = true ∨ e.hid = true) → getEnt mE.l n = some e
  frame : ∀ s v, fr.get s = some v → (∀ p, p ∈ ps → ∀ o, ops[p.i]? = some o → o.dst ≠ some s) → ∃ y, a.tmps[s]? = some y ∧ RV ρ I v y
  tsz : a.tmps.size = nt
  dfs : a.defers = []
  pok : ∀ p, p ∈ ps → PdOk P ops mem0.next made read fr mE p
  rng : ∀ p, p ∈ ps → ∀ n, p.m0.next ≤ n → n ≤ p.m1.next → ρ n = none
  dis : ∀ p q, p ∈ ps → q ∈ ps → p.i ≠ q.i → p.m1.next < q.m0.next ∨ q.m1.next < p.m0.next
  cross : ∀ p q, p ∈ ps → q ∈ ps → ∀ n e, getEnt p.m0.l n = some e → n ∈ q.names → (bf.getD p.i 0).testBit q.i = true
  mnew : ∀ x, x ∈ made → ∀ n, n ∈ x.2 → mem0.next ≤ n
  fresh0 : Fresh ρ0 mem0
  wf0 : ∀ n e, getEnt mem0.l n = some e → n < mem0.next

theorem Inv.wf {P : Program} {ops : Array Oper} {bf : Array Nat} {pl : List Nat} {nt : Nat} {ρ0 : Nm} {I0 : Im} {mem0 : Mem} {w0 : World}
    {pre : List Nat} {made read : List (Nat × List Nat)} {fr : Frame} {mE : Mem} {ps : List Pd} {listed : Array Bool} {a : Act} {w : World} {ρ : Nm} {I : Im}
    (h : Inv P ops bf pl nt ρ0 I0 mem0 w0 pre made read fr mE ps listed a w ρ I) : ∀ n e, getEnt mE.l n = some e → n < mE.next := fun n e he => by
  have : getEnt (mE.mark (pn ps) []).l n = some ⟨n, e.b, e.ro || hasN n [], e.hid || hasN n (pn ps)⟩ := by rw [mark_ent, he]; rfl
  exact h.step.mem.wf _ _ this

section
variable {ops : Array Oper} {bf : Array Nat} {pl : List Nat} {nt : Nat} {ρ0 : Nm} {I0 : Im} {mem0 : Mem} {w0 : World}
  {pre : List Nat} {made read : List (Nat × List Nat)} {fr : Frame} {mE : Mem} {ps : List Pd} {listed : Array Bool} {a : Act} {w : World} {ρ : Nm} {I : Im}

theorem getElem?_set_bool (l : Array Bool) (q i : Nat) (hq : q < l.size) : (l.setIfInBounds q true)[i]? = some true ↔ i = q ∨ l[i]? = some true := by
  rw [Array.getElem?_setIfInBounds]
  by_cases h : q = i
  · subst h; simp [hq]
  · have : ¬ i = q := Ne.symm h
    simp [h, this]

/-- the model takes an operation that the evaluator has done. -/
theorem Inv.list (h : Inv P ops bf pl nt ρ0 I0 mem0 w0 pre made read fr mE ps listed a w ρ I) {p : Pd} (hp : p ∈ ps) (hpl : p.i < ops.size)
    (hrc : ∀ k, k ∈ pl → (bf.getD p.i 0).testBit k = true → listed[k]? = some true) (hprepl : ∀ k, k ∈ pre → k ∈ pl) {o : Oper} (ho : ops[p.i]? = some o)
    (hslot : ∀ s, s ∈ looks ops o → ∀ q, q ∈ ps → ∀ oq, ops[q.i]? = some oq → oq.dst = some s → (bf.getD p.i 0).testBit q.i = true)
    (hdst : ∀ s, o.dst = some s → s < nt)
    {K : Act → World → Prop} {Q : Exit → Act → World → Prop}
    (hK : ∀ a' w' ρ' I', Inv P ops bf pl nt ρ0 I0 mem0 w0 pre made read fr mE (ps.filter fun q => q.i != p.i) (listed.setIfInBounds p.i true) a' w' ρ' I' → K a' w') : wpOp P ops Q p.i K a w := by
  have pk := h.pok p hp
  obtain ⟨o', ho', hE, hnon, hfr, hd⟩ := pk.op
  obtain rfl : o' = o := by rw [ho] at ho'; simpa using ho'.symm
  -- none that comes before it is pending
  have notpend : ∀ q, q ∈ ps → (bf.getD p.i 0).testBit q.i = true → False := fun q hq hb => by
    have := hrc q.i (hprepl _ (h.pend q hq)) hb
    exact ((h.lst q.i).1 this).2 q hq rfl
  have hsub : ∀ n b, p.m0.get n = some b → (mE.mark (pn ps) []).get n = some b := by
    intro n b hb
    obtain ⟨e, h1, h2, h3⟩ := Mem.get_iff.1 hb
    obtain ⟨_, _, _, ⟨e', r1, r2, r3⟩, _⟩ := pk.rd n e h1
    rw [mark_get]
    refine ⟨Mem.get_iff.2 ⟨e', r1, r2.trans h2, r3⟩, fun hn => ?_⟩
    obtain ⟨q, hq, hn⟩ := pn_iff.1 hn
    exact notpend q hq (h.cross p q hp hq n e h1 hn)
  have hnoW : ∀ n, p.m0.getW n = none := by
    intro n
    cases hw : p.m0.getW n with
    | none => rfl
    | some b =>
      obtain ⟨e, h1, h2, h3, h4⟩ := Mem.getW_iff.1 hw
      have := (pk.rd n e h1).1
      rw [h4] at this; simp at this
  have hm0 : MemR ρ I p.m0 w := h.step.mem.sub hsub fun n e he => (pk.rd n e he).2.2.1
  have hf0 : FrameR ρ I p.fr a.tmps := by
    intro s v hs
    obtain ⟨h1, h2⟩ := hfr s v hs
    refine h.frame s v h1 fun q hq oq hoq hdq => ?_
    exact notpend q hq (hslot s h2 q hq oq hoq hdq)
  refine nonE_sound hnon hE ho hm0 (h.rng p hp _ (Nat.le_refl _) pk.le) hf0 fun c w' ρ' I' hv hst => ?_
  have hnames : ∀ n g, ρ' n = some g → ρ n = some g ∨ (p.m0.next ≤ n ∧ n < p.m1.next) := hst.names
  have mem_f : ∀ q, q ∈ (ps.filter fun q => q.i != p.i) ↔ q ∈ ps ∧ q.i ≠ p.i := fun q => by simp
  have hstepC : StepC ρ I (mE.mark (pn ps) []) w ρ' I' (mE.mark (pn (ps.filter fun q => q.i != p.i)) []) w' := by
    have get' : ∀ n, n ∈ pn ps → n ∉ pn (ps.filter fun q => q.i != p.i) → ∃ e, getEnt p.m1.l n = some e ∧ getEnt mE.l n = some e := by
      intro n h1 h2
      obtain ⟨q, hq, hn⟩ := pn_iff.1 h1
      have : q = p := by
        by_cases hqi : q.i = p.i
        · exact h.uniq q p hq hp hqi
        · exact absurd (pn_iff.2 ⟨q, (mem_f q).2 ⟨hq, hqi⟩, hn⟩) h2
      subst this
      obtain ⟨hle, e, he⟩ := Pd.names_iff.1 hn
      exact ⟨e, he, (pk.new n e hle he).2.1⟩
    refine StepC.frame h.step.mem hsub (fun n b hb => by rw [hnoW] at hb; simp at hb) hst (fun n b hb => ?_) (fun n b hb => ?_) (fun n e he => ?_)
    · obtain ⟨h1, h2⟩ := mark_get.1 hb
      by_cases hn : n ∈ pn ps
      · left
        obtain ⟨e, e1, e2⟩ := get' n hn h2
        obtain ⟨e', f1, f2, f3⟩ := Mem.get_iff.1 h1
        rw [e2] at f1; simp at f1; subst f1
        exact Mem.get_iff.2 ⟨e, e1, f2, f3⟩
      · exact .inr ⟨mark_get.2 ⟨h1, hn⟩, hnoW n⟩
    · obtain ⟨h1, h2, h3⟩ := mark_getW.1 hb
      by_cases hn : n ∈ pn ps
      · left
        obtain ⟨e, e1, e2⟩ := get' n hn h2
        obtain ⟨e', f1, f2, f3, f4⟩ := Mem.getW_iff.1 h1
        rw [e2] at f1; simp at f1; subst f1
        exact Mem.getW_iff.2 ⟨e, e1, f2, f3, f4⟩
      · exact .inr (mark_getW.2 ⟨h1, hn, h3⟩)
    · rw [mark_ent] at he
      cases hme : getEnt mE.l n with
      | none => rw [hme] at he; simp at he
      | some e0 => exact h.wf n e0 hme
  refine hK _ w' ρ' I' ⟨?_, ?_, ?_, ?_, ?_, h.step.trans hstepC, ?_, h.next, h.keep, ?_, ?_, ?_, ?_, ?_, ?_, ?_, h.mnew, h.fresh0, h.wf0⟩
  · simp [h.size]
  · intro i
    rw [getElem?_set_bool _ _ _ (by rw [h.size]; exact hpl), h.lst i]
    constructor
    · rintro (rfl | ⟨h1, h2⟩)
      · exact ⟨h.pend p hp, fun q hq => ((mem_f q).1 hq).2⟩
      · exact ⟨h1, fun q hq => h2 q ((mem_f q).1 hq).1⟩
    · rintro ⟨h1, h2⟩
      by_cases hi : i = p.i
      · exact .inl hi
      · refine .inr ⟨h1, fun q hq e => ?_⟩
        exact h2 q ((mem_f q).2 ⟨hq, fun e' => hi (e.symm.trans e')⟩) e
  · intro q hq; exact h.pend q ((mem_f q).1 hq).1
  · intro q q' hq hq'; exact h.uniq q q' ((mem_f q).1 hq).1 ((mem_f q').1 hq').1
  · intro i k hi hk hb
    rw [getElem?_set_bool _ _ _ (by rw [h.size]; exact hpl)] at hi ⊢
    rcases hi with rfl | hi
    · exact .inr (hrc k hk hb)
    · exact .inr (h.closed i k hi hk hb)
  · intro n g hn
    rcases hnames n g hn with hn | hn
    · exact h.names n g hn
    · right
      have := pk.lo; have := pk.hi
      omega
  · intro s v hs hns
    by_cases hsd : o'.dst = some s
    · have := hd s hsd
      rw [this] at hs; simp at hs; subst hs
      refine ⟨c, ?_, hv⟩
      simp [Act.put, hsd, h.tsz, hdst s hsd]
    · obtain ⟨y, hy, hr⟩ := h.frame s v hs fun q hq oq hoq hdq => by
        by_cases hqi : q.i = p.i
        · rw [hqi, ho] at hoq; simp at hoq; subst hoq; exact hsd hdq
        · exact hns q ((mem_f q).2 ⟨hq, hqi⟩) oq hoq hdq
      refine ⟨y, ?_, hr.mono hst.ext hst.exi⟩
      cases hod : o'.dst with
      | none => simpa [Act.put, hod] using hy
      | some d =>
        have hne : d ≠ s := fun e => hsd (by rw [hod, e])
        simp only [Act.put, Array.getElem?_setIfInBounds]
        rw [if_neg hne]; exact hy
  · rw [put_size]; exact h.tsz
  · rw [put_defers]; exact h.dfs
  · intro q hq; exact h.pok q ((mem_f q).1 hq).1
  · intro q hq n h1 h2
    obtain ⟨hq, hqi⟩ := (mem_f q).1 hq
    cases hn : ρ' n with
    | none => rfl
    | some g =>
      rcases hnames n g hn with hn | hn
      · rw [h.rng q hq n h1 h2] at hn; simp at hn
      · have := h.dis q p hq hp hqi
        have := pk.le; have := (h.pok q hq).le
        omega
  · intro q q' hq hq'; exact h.dis q q' ((mem_f q).1 hq).1 ((mem_f q').1 hq').1
  · intro q q' hq hq'; exact h.cross q q' ((mem_f q).1 hq).1 ((mem_f q').1 hq').1

/-- the evaluator does an operation that is no effect. -/
theorem Inv.push (h : Inv P ops bf pl nt ρ0 I0 mem0 w0 pre made read fr mE ps listed a w ρ I) {q : Nat} {o : Oper} (ho : ops[q]? = some o) (hE : isE o.op = false) (hqpre : q ∉ pre)
    (hself : ∀ s, o.dst = some s → s ∉ looks ops o)
    (hpre : ∀ p, p ∈ pre → ∃ op, ops[p]? = some op ∧ (∀ s, op.dst = some s → o.dst ≠ some s) ∧ (∀ s, o.dst = some s → s ∉ looks ops op))
    {ns : List Nat} (hmeet : ∀ n, n ∈ ns → n ∉ pickBefore (bf.getD q 0) made) {v : V} {m1 : Mem} (hnon : nonE P ops (cutF fr (looks ops o)) ⟨mE.next, cutEnt mE.l ns⟩ o = some (v, m1))
    {new : List Ent} (htake : takeNew mE.next m1 = some new) {made' read' : List (Nat × List Nat)}
    (hmade : ∀ x, x ∈ made → x ∈ made') (hmade1 : ∀ n, n ∈ entNames new → ∃ x, x ∈ made' ∧ x.1 = q ∧ n ∈ x.2) (hmade2 : ∀ x, x ∈ made' → x ∈ made ∨ x = (q, entNames new))
    (hread : ∀ x, x ∈ read → x ∈ read') (hread1 : ∀ n, n ∈ ns → ∃ x, x ∈ read' ∧ x.1 = q ∧ n ∈ x.2) :
    ∃ p, p.i = q ∧ Inv P ops bf pl nt ρ0 I0 mem0 w0 (q :: pre) made' read' (fr.put o.dst v) ⟨Nat.succ m1.next, new ++ mE.l⟩ (p :: ps) listed a w ρ I := by
  obtain ⟨rfl, hle, hbound⟩ := takeNew_spec htake
  let p : Pd := ⟨q, v, ⟨mE.next, cutEnt mE.l ns⟩, m1, cutF fr (looks ops o)⟩
  let mE' : Mem := ⟨Nat.succ m1.next, newEnts mE.next m1.l ++ mE.l⟩
  have hwf := h.wf
  have ent' : ∀ n, getEnt mE'.l n = if mE.next ≤ n then getEnt m1.l n else getEnt mE.l n := by
    intro n
    show getEnt (newEnts mE.next m1.l ++ mE.l) n = _
    rw [getEnt_append, newEnts_get]
    by_cases hn : mE.next ≤ n
    · rw [if_pos hn, if_pos hn]
      cases h1 : getEnt m1.l n with
      | some e => rfl
      | none =>
        cases h2 : getEnt mE.l n with
        | none => rfl
        | some e => have := hwf n e h2; omega
    · rw [if_neg hn, if_neg hn]
  have pnames : ∀ n, n ∈ p.names ↔ mE.next ≤ n ∧ ∃ e, getEnt m1.l n = some e := fun n => Pd.names_iff
  have pslt : ∀ n, n ∈ pn ps → n < mE.next := by
    intro n hn
    obtain ⟨x, hx, hn⟩ := pn_iff.1 hn
    obtain ⟨h1, e, h2⟩ := Pd.names_iff.1 hn
    have := ((h.pok x hx).new n e h1 h2).1
    have := (h.pok x hx).hi
    omega
  have pncons : ∀ n, n ∈ pn (p :: ps) ↔ n ∈ p.names ∨ n ∈ pn ps := fun n => by simp [pn]
  have hfrput : ∀ s u, o.dst ≠ some s → (fr.put o.dst v).get s = some u → fr.get s = some u := by
    intro s u hs hu
    cases hd : o.dst with
    | none => simpa [Frame.put, hd] using hu
    | some d =>
      rw [hd] at hu hs
      simp only [Frame.put, Frame.get_set] at hu
      rwa [if_neg (fun e => hs (by rw [e]))] at hu
  have hfrput' : ∀ s u, o.dst ≠ some s → fr.get s = some u → (fr.put o.dst v).get s = some u := by
    intro s u hs hu
    cases hd : o.dst with
    | none => simpa [Frame.put] using hu
    | some d =>
      rw [hd] at hs
      simp only [Frame.put, Frame.get_set]
      rw [if_neg (fun e => hs (by rw [e]))]; exact hu
  have hnextE : mE.next ≤ mE'.next := by show mE.next ≤ Nat.succ m1.next; omega
  have entE : ∀ n e, getEnt mE.l n = some e → getEnt mE'.l n = some e := by
    intro n e he
    rw [ent', if_neg (by have := hwf n e he; omega)]; exact he
  have pne : ∀ x, x ∈ ps → x.i ≠ q := fun x hx e => hqpre (e ▸ h.pend x hx)
  refine ⟨p, rfl, ⟨h.size, ?_, ?_, ?_, h.closed, ?_, ?_, ?_, ?_, ?_, h.tsz, h.dfs, ?_, ?_, ?_, ?_, ?_, h.fresh0, h.wf0⟩⟩
  · intro i
    rw [h.lst i]
    constructor
    · rintro ⟨h1, h2⟩
      refine ⟨List.mem_cons_of_mem _ h1, fun x hx => ?_⟩
      rcases List.mem_cons.1 hx with rfl | hx
      · intro e; exact hqpre (by rw [show q = i from e]; exact h1)
      · exact h2 x hx
    · rintro ⟨h1, h2⟩
      rcases List.mem_cons.1 h1 with rfl | h1
      · exact absurd rfl (h2 p List.mem_cons_self)
      · exact ⟨h1, fun x hx => h2 x (List.mem_cons_of_mem _ hx)⟩
  · intro x hx
    rcases List.mem_cons.1 hx with rfl | hx
    · exact List.mem_cons_self
    · exact List.mem_cons_of_mem _ (h.pend x hx)
  · intro x y hx hy e
    rcases List.mem_cons.1 hx with rfl | hx <;> rcases List.mem_cons.1 hy with rfl | hy
    · rfl
    · exact absurd e.symm (pne y hy)
    · exact absurd e (pne x hx)
    · exact h.uniq x y hx hy e
  · refine h.step.same (fun n b hb => ?_) (fun n b hb => ?_) (fun n e he => ?_)
    · obtain ⟨h1, h2⟩ := mark_get.1 hb
      have h3 : ¬ (n ∈ p.names ∨ n ∈ pn ps) := fun hx => h2 ((pncons n).2 hx)
      obtain ⟨e, e1, e2, e3⟩ := Mem.get_iff.1 h1
      rw [ent'] at e1
      split at e1
      · rename_i hn; exact absurd (.inl ((pnames n).2 ⟨hn, e, e1⟩)) h3
      · exact mark_get.2 ⟨Mem.get_iff.2 ⟨e, e1, e2, e3⟩, fun hx => h3 (.inr hx)⟩
    · obtain ⟨h1, h2, h4⟩ := mark_getW.1 hb
      have h3 : ¬ (n ∈ p.names ∨ n ∈ pn ps) := fun hx => h2 ((pncons n).2 hx)
      obtain ⟨e, e1, e2, e3, e4⟩ := Mem.getW_iff.1 h1
      rw [ent'] at e1
      split at e1
      · rename_i hn; exact absurd (.inl ((pnames n).2 ⟨hn, e, e1⟩)) h3
      · exact mark_getW.2 ⟨Mem.getW_iff.2 ⟨e, e1, e2, e3, e4⟩, fun hx => h3 (.inr hx), h4⟩
    · rw [mark_ent] at he
      cases hme : getEnt mE'.l n with
      | none => rw [show getEnt (newEnts mE.next m1.l ++ mE.l) n = none from hme] at he; simp at he
      | some e0 =>
        rw [ent'] at hme
        show n < Nat.succ m1.next
        split at hme
        · rename_i hn
          have := hbound n e0 (by rw [newEnts_get, if_pos hn]; exact hme)
          omega
        · have := hwf n e0 hme; omega
  · intro n g hn
    rcases h.names n g hn with hn | hn
    · exact .inl hn
    · right
      exact ⟨hn.1, Nat.lt_of_lt_of_le hn.2 hnextE⟩
  · exact Nat.le_trans h.next hnextE
  · intro n e he hf
    exact entE n e (h.keep n e he hf)
  · intro s u hs hns
    have hsd : o.dst ≠ some s := hns p List.mem_cons_self o ho
    exact h.frame s u (hfrput s u hsd hs) fun x hx => hns x (List.mem_cons_of_mem _ hx)
  · intro x hx
    rcases List.mem_cons.1 hx with rfl | hx
    · refine ⟨⟨o, ho, hE, hnon, fun s u hs => ?_, fun s hs => ?_⟩, fun n e he => ?_, h.next, hle, Nat.lt_succ_self _, fun n e hn he => ?_⟩
      · obtain ⟨h1, h2⟩ := cutF_get hs
        exact ⟨hfrput' s u (fun e => hself s e h2) h1, h2⟩
      · simp [Frame.put, hs, Frame.get_set, p]
      · obtain ⟨c1, c2, c3, e', c4, c5, c6⟩ := cutEnt_get he
        exact ⟨c2, c3, hwf n e' c4, ⟨e', entE n e' c4, c5, c6⟩, hread1 n c1⟩
      · refine ⟨hbound n e (by rw [newEnts_get, if_pos hn]; exact he), ?_, hmade1 n (entNames_iff.2 ⟨e, by rw [newEnts_get, if_pos hn]; exact he⟩)⟩
        show getEnt mE'.l n = some e
        rw [ent', if_pos hn]; exact he
    · obtain ⟨⟨ox, hox, b1, b2, b3, b4⟩, b5, b6, b7, b8, b9⟩ := h.pok x hx
      obtain ⟨oy, hoy, d1, d2⟩ := hpre x.i (h.pend x hx)
      obtain rfl : oy = ox := by rw [hox] at hoy; simpa using hoy.symm
      refine ⟨⟨oy, hox, b1, b2, fun s u hs => ?_, fun s hs => ?_⟩, fun n e he => ?_, b6, b7, ?_, fun n e hn he => ?_⟩
      · obtain ⟨c1, c2⟩ := b3 s u hs
        exact ⟨hfrput' s u (fun e => d2 s e c2) c1, c2⟩
      · exact hfrput' s _ (d1 s hs) (b4 s hs)
      · obtain ⟨c1, c2, c3, ⟨e', c4, c5, c6⟩, y, y1, y2, y3⟩ := b5 n e he
        exact ⟨c1, c2, c3, ⟨e', entE n e' c4, c5, c6⟩, y, hread y y1, y2, y3⟩
      · show x.m1.next < Nat.succ m1.next
        omega
      · obtain ⟨c1, c2, y, y1, y2, y3⟩ := b9 n e hn he
        exact ⟨c1, entE n e c2, y, hmade y y1, y2, y3⟩
  · intro x hx n h1 h2
    rcases List.mem_cons.1 hx with rfl | hx
    · have h1 : mE.next ≤ n := h1
      cases hn : ρ n with
      | none => rfl
      | some g =>
        rcases h.names n g hn with hn' | hn'
        · have := h.fresh0 n (by have := h.next; omega)
          rw [this] at hn'; simp at hn'
        · omega
    · exact h.rng x hx n h1 h2
  · intro x y hx hy e
    rcases List.mem_cons.1 hx with rfl | hx <;> rcases List.mem_cons.1 hy with rfl | hy
    · exact absurd rfl e
    · right; exact (h.pok y hy).hi
    · left; exact (h.pok x hx).hi
    · exact h.dis x y hx hy e
  · intro x y hx hy n e he hn
    rcases List.mem_cons.1 hx with rfl | hx
    · obtain ⟨c1, c2, c3, e', c4, c5, c6⟩ := cutEnt_get he
      have hlt := hwf n e' c4
      rcases List.mem_cons.1 hy with rfl | hy
      · have := ((pnames n).1 hn).1; omega
      · obtain ⟨f1, e2, f2⟩ := Pd.names_iff.1 hn
        obtain ⟨_, _, z, z1, z2, z3⟩ := (h.pok y hy).new n e2 f1 f2
        cases hb : (bf.getD q 0).testBit y.i with
        | true => rfl
        | false => exact absurd (pickBefore_iff.2 ⟨z, z1, by rw [z2]; exact hb, z3⟩) (hmeet n c1)
    · rcases List.mem_cons.1 hy with rfl | hy
      · have h1 := ((pnames n).1 hn).1
        have h2 := ((h.pok x hx).rd n e he).2.2.1
        have h3 := (h.pok x hx).le
        have h4 := (h.pok x hx).hi
        omega
      · exact h.cross x y hx hy n e he hn
  · intro x hx n hn
    rcases hmade2 x hx with hx | rfl
    · exact h.mnew x hx n hn
    · obtain ⟨e, he⟩ := entNames_iff.1 hn
      rw [newEnts_get] at he
      split at he
      · rename_i hle'; have := h.next; omega
      · simp at he

end
end Go.Ab
