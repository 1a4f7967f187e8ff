/- Regions that draw their order: the theorem. -/
import Derived.Test.YtecfekfenhacpaaGreatAbDraw3
namespace Go.Ab
open Go
set_option linter.unusedVariables false
set_option linter.unusedSimpArgs false
variable {R : Type} {P : Program}

structure Chk (ops : Array Oper) (bf : Array Nat) (pl pre : List Nat) (q : Nat) (o : Oper) : Prop where
  op : ops[q]? = some o
  fresh : q ∉ pre
  edges : ∀ e, e ∈ o.after.toList → Region.binds .any e = true → e.on ∈ pre
  bfe : ∀ k, k ∈ pl → (bf.getD q 0).testBit k = true → ∃ e, e ∈ o.after.toList ∧ Region.binds .any e = true ∧ (e.on = k ∨ (bf.getD e.on 0).testBit k = true)
  self : ∀ s, o.dst = some s → s ∉ looks ops o
  pre : ∀ p, p ∈ pre → ∃ op, ops[p]? = some op ∧ (isE op.op = true → (bf.getD q 0).testBit p = true) ∧ (∀ s, op.dst = some s → o.dst ≠ some s) ∧ (∀ s, op.dst = some s → s ∈ looks ops o → (bf.getD q 0).testBit p = true) ∧
    (∀ s, o.dst = some s → s ∈ looks ops op → isE o.op = true ∧ (bf.getD q 0).testBit p = true)

theorem slotFree_spec {l : List Nat} {d : Option Nat} (h : slotFree l d = true) : ∀ s, d = some s → s ∉ l := by
  intro s hs hm
  subst hs
  simp [slotFree, hasN_iff.2 hm] at h

theorem neDst_spec {a b : Option Nat} (h : neDst a b = true) : ∀ s, a = some s → b ≠ some s := by
  intro s hs hb
  subst hs; subst hb
  simp [neDst] at h

theorem chkOne_spec {ops : Array Oper} {bf : Array Nat} {pl pre : List Nat} {q : Nat} (h : chkOne ops bf pl pre q = true) : ∃ o, Chk ops bf pl pre q o := by
  unfold chkOne at h
  split at h
  · simp at h
  · rename_i o ho
    simp only [Bool.and_eq_true] at h
    obtain ⟨h1, h2, h3, h4, h5⟩ := h
    refine ⟨o, ho, ?_, ?_, ?_, slotFree_spec h4, ?_⟩
    · intro hm; simp [hasN_iff.2 hm] at h1
    · intro e he hb
      have := List.all_eq_true.1 h2 e he
      simp only [hb, Bool.not_true, Bool.false_or] at this
      exact hasN_iff.1 this
    · intro k hk hb
      have := List.all_eq_true.1 h3 k hk
      simp only [hb, Bool.not_true, Bool.false_or] at this
      obtain ⟨e, he, h6⟩ := List.any_eq_true.1 this
      simp only [Bool.and_eq_true, Bool.or_eq_true] at h6
      exact ⟨e, he, h6.1, h6.2.imp beq_true.1 id⟩
    · intro p hp
      have := List.all_eq_true.1 h5 p hp
      split at this
      · simp at this
      · rename_i op hop
        simp only [Bool.and_eq_true, Bool.or_eq_true] at this
        obtain ⟨a1, a2, a3, a4⟩ := this
        refine ⟨op, hop, fun hE => ?_, neDst_spec a2, fun s hs hm => ?_, fun s hs hm => a4.resolve_left fun h => slotFree_spec h s hs hm⟩
        · rcases a1 with a1 | a1
          · simp [hE] at a1
          · exact a1
        · rcases a3 with a3 | a3
          · exact absurd hm (slotFree_spec a3 s hs)
          · exact a3

theorem chkPlan_mem {ops : Array Oper} {bf : Array Nat} {pl : List Nat} : ∀ {rest pre : List Nat}, chkPlan ops bf pl pre rest = true → ∀ q, q ∈ rest → ∃ pre' o, Chk ops bf pl pre' q o ∧ ∀ x, x ∈ pre → x ∈ pre'
  | [], pre, h, q, hq => by simp at hq
  | x :: rest, pre, h, q, hq => by
    simp only [chkPlan, Bool.and_eq_true] at h
    rcases List.mem_cons.1 hq with rfl | hq
    · obtain ⟨o, ho⟩ := chkOne_spec h.1
      exact ⟨pre, o, ho, fun _ h => h⟩
    · obtain ⟨pre', o, h1, h2⟩ := chkPlan_mem h.2 q hq
      exact ⟨pre', o, h1, fun y hy => h2 y (List.mem_cons_of_mem _ hy)⟩

theorem ready_iff {ops : Array Oper} {listed : Array Bool} {i : Nat} {o : Oper} (ho : ops[i]? = some o) :
    i ∈ Region.ready .any ops listed ↔ listed.getD i true = false ∧ ∀ e, e ∈ o.after.toList → Region.binds .any e = true → listed.getD e.on false = true := by
  have hi : i < ops.size := (Array.getElem?_eq_some_iff.1 ho).1
  unfold Region.ready
  rw [List.mem_filter]
  simp only [List.mem_range, hi, true_and, ho, Option.map_some, Option.getD_some, Bool.and_eq_true, Bool.not_eq_true']
  constructor
  · rintro ⟨h1, h2⟩
    refine ⟨h1, fun e he hb => ?_⟩
    rw [← Array.all_toList] at h2
    have := List.all_eq_true.1 h2 e he
    simpa [hb] using this
  · rintro ⟨h1, h2⟩
    refine ⟨h1, ?_⟩
    rw [← Array.all_toList]
    refine List.all_eq_true.2 fun e he => ?_
    cases hb : Region.binds .any e with
    | false => simp
    | true => simpa using h2 e he hb

theorem getD_true {l : Array Bool} {i : Nat} : l.getD i false = true ↔ l[i]? = some true := by
  rw [Array.getD_eq_getD_getElem?]
  cases h : l[i]? with
  | none => simp
  | some b => simp

theorem getD_false {l : Array Bool} {i : Nat} : l.getD i true = false ↔ l[i]? = some false := by
  rw [Array.getD_eq_getD_getElem?]
  cases h : l[i]? with
  | none => simp
  | some b => simp

/-- where none is ready, all are listed. -/
theorem all_listed {ops : Array Oper} {bf : Array Nat} {pl : List Nat} {listed : Array Bool} (hsz : listed.size = ops.size) (hr : Region.ready .any ops listed = []) :
    ∀ {rest pre : List Nat}, chkPlan ops bf pl pre rest = true → (∀ x, x ∈ pre → listed[x]? = some true) → ∀ q, q ∈ rest → listed[q]? = some true
  | [], pre, h, hp, q, hq => by simp at hq
  | x :: rest, pre, h, hp, q, hq => by
    simp only [chkPlan, Bool.and_eq_true] at h
    obtain ⟨o, ho⟩ := chkOne_spec h.1
    have hx : listed[x]? = some true := by
      have hlt : x < listed.size := by rw [hsz]; exact (Array.getElem?_eq_some_iff.1 ho.op).1
      cases hv : listed[x]? with
      | none => simp at hv; omega
      | some b =>
        cases b with
        | true => rfl
        | false =>
          have := (ready_iff (listed := listed) ho.op).2 ⟨getD_false.2 hv, fun e he hb => getD_true.2 (hp _ (ho.edges e he hb))⟩
          rw [hr] at this; simp at this
    rcases List.mem_cons.1 hq with rfl | hq
    · exact hx
    · refine all_listed hsz hr h.2 (fun y hy => ?_) q hq
      rcases List.mem_cons.1 hy with rfl | hy
      · exact hx
      · exact hp y hy

theorem count_set {l : Array Bool} {i : Nat} (h : l[i]? = some false) : (l.setIfInBounds i true).toList.count false + 1 = l.toList.count false := by
  have hi : i < l.toList.length := by
    have := (Array.getElem?_eq_some_iff.1 h).1
    simpa using this
  have hv : l.toList[i] = false := by
    rw [← Array.getElem?_toList] at h
    rw [List.getElem?_eq_getElem hi] at h
    simpa using h
  rw [Array.toList_setIfInBounds, List.count_set hi]
  have : 0 < l.toList.count false := List.count_pos_iff.2 (hv ▸ List.getElem_mem hi)
  rw [hv]
  have e1 : ((false == false) = true) := rfl
  have e2 : ¬ ((true == false) = true) := by decide
  rw [if_pos e1, if_neg e2]
  omega

section
variable {ops : Array Oper} {bf : Array Nat} {pl : List Nat} {nt : Nat} {ρ0 : Nm} {I0 : Im} {mem0 : Mem} {w0 : World}
  {J : Option R → Option R → Option R} {call : Caller R} {k : Ex → Frame → Mem → Option R} {r : R} {Q : Exit → Act → World → Prop}

theorem draw_main (hJ : Joins J) (hcall : CallS P call) (hd : ops.toList.all (dstOk nt) = true) (HA : ∀ q, q ∈ pl → ∃ pre' o, Chk ops bf pl pre' q o) (Hall : ∀ i, i < ops.size → i ∈ pl)
    (Hpl : chkPlan ops bf pl [] pl = true) (hG : Gives nt ρ0 I0 mem0 w0 k r Q) :
    ∀ (N fuel : Nat) (rest pre : List Nat) (made read : List (Nat × List Nat)) (fr : Frame) (mE : Mem) (ps : List Pd) (listed : Array Bool) (a : Act) (w : World) (ρ : Nm) (I : Im),
      fuel + rest.length ≤ N → listed.toList.count false ≤ fuel → (∀ x, x ∈ pl ↔ x ∈ pre ∨ x ∈ rest) → chkPlan ops bf pl pre rest = true →
      Inv P ops bf pl nt ρ0 I0 mem0 w0 pre made read fr mE ps listed a w ρ I → drawC P J call ops bf rest made read fr mE k = some r → wpAny P .any ops Q fuel listed a w := by
  have hdst : ∀ (q : Nat) (o : Oper), ops[q]? = some o → ∀ s, o.dst = some s → s < nt := fun q o ho s hs =>
    dstOk_spec (List.all_eq_true.1 hd o (by have := Array.mem_of_getElem? ho; simpa using this)) s hs
  intro N
  induction N with
  | zero =>
    intro fuel rest pre made read fr mE ps listed a w ρ I hN hcnt hpl hchk h hdraw
    have hf : fuel = 0 := by omega
    have hr0 : rest = [] := List.eq_nil_of_length_eq_zero (by omega)
    subst hf; subst hr0
    have hready : Region.ready .any ops listed = [] := by
      rw [List.eq_nil_iff_forall_not_mem]
      intro i hi
      obtain ⟨o, ho⟩ : ∃ o, ops[i]? = some o := by
        have := (List.mem_filter.1 hi).1
        simp at this
        exact ⟨ops[i], by simp [this]⟩
      have h1 := getD_false.1 ((ready_iff ho).1 hi).1
      have := count_set h1
      omega
    have hl := all_listed h.size hready Hpl (by simp)
    have hps : ps = [] := by
      cases ps with
      | nil => rfl
      | cons p ps =>
        have h1 := hl p.i ((hpl _).2 (.inl (h.pend p List.mem_cons_self)))
        exact absurd rfl (((h.lst _).1 h1).2 p List.mem_cons_self)
    subst hps
    refine ⟨hready, hG .norm fr mE ρ I .normal a w (by simpa [drawC] using hdraw) ⟨?_, h.next, h.names, h.keep⟩ (fun s v hs => h.frame s v hs (by simp)) h.tsz h.dfs trivial⟩
    have := h.step
    simpa [pn, mark_nil] using this
  | succ N ih =>
    intro fuel rest pre made read fr mE ps listed a w ρ I hN hcnt hpl hchk h hdraw
    have hprepl : ∀ x, x ∈ pre → x ∈ pl := fun x hx => (hpl x).2 (.inl hx)
    -- the model's turn
    have turn : (∀ q r', rest = q :: r' → ∃ o, ops[q]? = some o ∧ isE o.op = true) → wpAny P .any ops Q fuel listed a w := by
      intro hrest
      by_cases hready : Region.ready .any ops listed = []
      · have hl := all_listed h.size hready Hpl (by simp)
        have hps : ps = [] := by
          cases ps with
          | nil => rfl
          | cons p ps =>
            have h1 := hl p.i (hprepl _ (h.pend p List.mem_cons_self))
            exact absurd rfl (((h.lst _).1 h1).2 p List.mem_cons_self)
        subst hps
        have hrn : rest = [] := by
          cases rest with
          | nil => rfl
          | cons q r' =>
            simp only [chkPlan, Bool.and_eq_true] at hchk
            obtain ⟨o, ho⟩ := chkOne_spec hchk.1
            exact absurd ((h.lst q).1 (hl q ((hpl q).2 (.inr List.mem_cons_self)))).1 ho.fresh
        subst hrn
        refine wpAny_done hready (hG .norm fr mE ρ I .normal a w (by simpa [drawC] using hdraw) ⟨?_, h.next, h.names, h.keep⟩ (fun s v hs => h.frame s v hs (by simp)) h.tsz h.dfs trivial) fuel
        have := h.step
        simpa [pn, mark_nil] using this
      · -- some are ready
        have hsome : ∀ i, i ∈ Region.ready .any ops listed → ∃ o, ops[i]? = some o ∧ listed[i]? = some false ∧ i ∈ pl ∧ ∀ kx, kx ∈ pl → (bf.getD i 0).testBit kx = true → listed[kx]? = some true := by
          intro i hi
          have hlt := (List.mem_filter.1 hi).1
          simp at hlt
          have ho : ops[i]? = some ops[i] := by simp [hlt]
          obtain ⟨h1, h2⟩ := (ready_iff ho).1 hi
          have hipl := Hall i hlt
          obtain ⟨pre', o', hc⟩ := HA i hipl
          obtain rfl : o' = ops[i] := by have := hc.op; rw [ho] at this; simpa using this.symm
          refine ⟨_, ho, getD_false.1 h1, hipl, fun kx hk hb => ?_⟩
          obtain ⟨e, he, hbe, hor⟩ := hc.bfe kx hk hb
          have hle := getD_true.1 (h2 e he hbe)
          rcases hor with rfl | hor
          · exact hle
          · exact h.closed e.on kx hle hk hor
        cases fuel with
        | zero =>
          exfalso
          cases hx : Region.ready .any ops listed with
          | nil => exact hready hx
          | cons i l =>
            obtain ⟨o, _, h1, _⟩ := hsome i (by rw [hx]; exact List.mem_cons_self)
            have := count_set h1
            omega
        | succ fuel =>
          refine ⟨fun hx => absurd hx hready, fun i hi => ?_⟩
          obtain ⟨o, ho, hlf, hipl, hrc⟩ := hsome i hi
          have hisz : i < ops.size := (Array.getElem?_eq_some_iff.1 ho).1
          have hnl : listed[i]? ≠ some true := by rw [hlf]; simp
          have hcnt' : (listed.setIfInBounds i true).toList.count false ≤ fuel := by
            have := count_set hlf
            omega
          obtain ⟨prei, oi, hci⟩ := HA i hipl
          obtain rfl : oi = o := by have := hci.op; rw [ho] at this; simpa using this.symm
          by_cases hip : i ∈ pre
          · -- done by the evaluator already
            have hpd : ∃ p, p ∈ ps ∧ p.i = i := by
              apply Classical.byContradiction
              intro hn
              exact hnl ((h.lst i).2 ⟨hip, fun p hp e => hn ⟨p, hp, e⟩⟩)
            obtain ⟨p, hp, rfl⟩ := hpd
            refine h.list hp hisz hrc hprepl ho (fun s hs q hq oq hoq hdq => ?_) (hdst _ _ ho) (fun a' w' ρ' I' h' => ?_)
            · -- a slot that it looks at is written before it
              by_cases hqi : q.i = p.i
              · rw [hqi, ho] at hoq; simp at hoq; subst hoq
                exact absurd hs (hci.self s hdq)
              · obtain ⟨preq, oq', hcq⟩ := HA q.i (hprepl _ (h.pend q hq))
                obtain rfl : oq' = oq := by have := hcq.op; rw [hoq] at this; simpa using this.symm
                -- which of both comes first
                have key : ∀ (l prex : List Nat), chkPlan ops bf pl prex l = true → p.i ∈ l → q.i ∈ l → (bf.getD p.i 0).testBit q.i = true := by
                  intro l
                  induction l with
                  | nil => intro prex _ hx; simp at hx
                  | cons x l ihl =>
                    intro prex hcx h1 h2
                    simp only [chkPlan, Bool.and_eq_true] at hcx
                    rcases List.mem_cons.1 h1 with hx1 | h1 <;> rcases List.mem_cons.1 h2 with hx2 | h2
                    · exact absurd (hx2.trans hx1.symm) hqi
                    · -- p first: q's slot is none that p looks at
                      obtain ⟨pre', o', hc', hsub⟩ := chkPlan_mem hcx.2 q.i h2
                      obtain rfl : o' = oq' := by have := hc'.op; rw [hoq] at this; simpa using this.symm
                      obtain ⟨op, hop, _, _, _, c4⟩ := hc'.pre p.i (hsub _ (by rw [hx1]; exact List.mem_cons_self))
                      obtain rfl : op = oi := by rw [ho] at hop; simpa using hop.symm
                      obtain ⟨_, oq3, hoq3, hEq3, _⟩ := (⟨trivial, (h.pok q hq).op⟩ : True ∧ _)
                      obtain rfl : oq3 = o' := by rw [hoq] at hoq3; simpa using hoq3.symm
                      have := (c4 s hdq hs).1
                      rw [hEq3] at this; simp at this
                    · -- q first
                      obtain ⟨pre', o', hc', hsub⟩ := chkPlan_mem hcx.2 p.i h1
                      obtain rfl : o' = oi := by have := hc'.op; rw [ho] at this; simpa using this.symm
                      obtain ⟨op, hop, _, _, c3, _⟩ := hc'.pre q.i (hsub _ (by rw [hx2]; exact List.mem_cons_self))
                      obtain rfl : op = oq' := by rw [hoq] at hop; simpa using hop.symm
                      exact c3 s hdq hs
                    · exact ihl _ hcx.2 h1 h2
                exact key pl [] Hpl hipl (hprepl _ (h.pend q hq))
            · exact ih fuel rest pre made read fr mE _ _ a' w' ρ' I' (by omega) hcnt' hpl hchk h' hdraw
          · -- the next effect
            cases rest with
            | nil =>
              rcases (hpl i).1 hipl with hx | hx
              · exact absurd hx hip
              · simp at hx
            | cons q r' =>
              obtain ⟨oq, hoq, hEq⟩ := hrest q r' rfl
              have hchk' := hchk
              simp only [chkPlan, Bool.and_eq_true] at hchk
              obtain ⟨oq', hcq⟩ := chkOne_spec hchk.1
              obtain rfl : oq' = oq := by have := hcq.op; rw [hoq] at this; simpa using this.symm
              have hiq : i = q := by
                rcases (hpl i).1 hipl with hx | hx
                · exact absurd hx hip
                · rcases List.mem_cons.1 hx with rfl | hx
                  · rfl
                  · exfalso
                    obtain ⟨pre', o', hc', hsub⟩ := chkPlan_mem hchk.2 i hx
                    obtain ⟨op, hop, c1, _⟩ := hc'.pre q (hsub _ List.mem_cons_self)
                    obtain rfl : op = oq' := by rw [hoq] at hop; simpa using hop.symm
                    have := hrc q ((hpl q).2 (.inr List.mem_cons_self)) (c1 hEq)
                    exact hcq.fresh ((h.lst q).1 this).1
              subst hiq
              obtain rfl : oq' = oi := by rw [ho] at hoq; simpa using hoq.symm
              simp only [drawC, ho, hEq, cond_true] at hdraw
              have hpre' : ∀ p, p ∈ pre → ∃ op, ops[p]? = some op ∧ (∀ s, op.dst = some s → oq'.dst ≠ some s) ∧ (∀ s, op.dst = some s → s ∈ looks ops oq' → (bf.getD i 0).testBit p = true) ∧ (∀ s, oq'.dst = some s → s ∈ looks ops op → (bf.getD i 0).testBit p = true) := fun p hp => by
                obtain ⟨op, hop, _, c2, c3, c4⟩ := hcq.pre p hp
                exact ⟨op, hop, c2, c3, fun s h1 h2 => (c4 s h1 h2).2⟩
              have hpl' : ∀ x, x ∈ pl ↔ x ∈ i :: pre ∨ x ∈ r' := fun x => by
                rw [hpl x]
                simp only [List.mem_cons]
                exact ⟨fun h => by rcases h with h | h | h <;> simp [h], fun h => by rcases h with (h | h) | h <;> simp [h]⟩
              have next : ∀ (bret : Mem → Mem) (v : V) m1 (a' : Act) w' ρ' I', drawC P J call ops bf r' made read (fr.put oq'.dst v) (bret m1) k = some r →
                  Inv P ops bf pl nt ρ0 I0 mem0 w0 (i :: pre) made read (fr.put oq'.dst v) (bret m1) ps (listed.setIfInBounds i true) a' w' ρ' I' → wpAny P .any ops Q fuel (listed.setIfInBounds i true) a' w' := by
                intro bret v m1 a' w' ρ' I' hk h'
                exact ih fuel r' (i :: pre) made read _ _ ps _ a' w' ρ' I' (by simp only [List.length_cons] at hN; omega) hcnt' hpl' hchk.2 h' hk
              have pan : ∀ (bpan : Mem → Mem) (v : V) c m1 w' ρ' I', k (.pan v) (dropDst ops.toList fr) (bpan m1) = some r → StepR ρ0 I0 mem0 w0 ρ' I' (bpan m1) w' → FrameR ρ' I' (dropDst ops.toList fr) a.tmps → RV ρ' I' v c →
                  Q (.panic [{ v := c, recovered := false }]) a w' := fun bpan v c m1 w' ρ' I' hk hst hf hv =>
                hG (.pan v) _ _ ρ' I' _ a w' hk hst hf h.tsz h.dfs ⟨c, rfl, hv⟩
              split at hdraw
              · rename_i e1 e2
                refine h.eff hJ hcall (hide := []) (ro := []) (bret := id) (bpan := id) ho hip hisz hrc hprepl hpre' (hdst _ _ ho) e1.symm e2.symm (r := r) (by rw [mark_nil]; exact hdraw)
                  (fun m1 hkp => by rw [mark_nil] at hkp; exact back_nil hkp) (fun m1 hkp => by rw [mark_nil] at hkp; exact back_nil hkp)
                  (fun v m1 a' w' ρ' I' hk h' => next id v m1 a' w' ρ' I' hk h') (fun v c m1 w' ρ' I' hk hst hf hv => pan id v c m1 w' ρ' I' hk hst hf hv)
              · refine h.eff hJ hcall (bret := fun m1 => Mem.unmark mE (pickBefore (bf.getD i 0) made ++ pickBefore (bf.getD i 0) read) m1)
                  (bpan := fun m1 => Mem.unmark (mE.mark (pickBefore (bf.getD i 0) made) []) (pickBefore (bf.getD i 0) made ++ pickBefore (bf.getD i 0) read) m1) ho hip hisz hrc hprepl hpre' (hdst _ _ ho) rfl rfl (r := r) hdraw
                  (fun m1 hkp => by have := back_unmark (h2 := []) (by simp) hkp; rwa [mark_nil] at this) (fun m1 hkp => back_unmark (fun _ h => h) hkp)
                  (fun v m1 a' w' ρ' I' hk h' => next _ v m1 a' w' ρ' I' hk h') (fun v c m1 w' ρ' I' hk hst hf hv => pan _ v c m1 w' ρ' I' hk hst hf hv)
    -- the evaluator's turn
    cases rest with
    | nil => exact turn (by simp)
    | cons q r' =>
      have hchk' := hchk
      simp only [chkPlan, Bool.and_eq_true] at hchk
      obtain ⟨oq, hcq⟩ := chkOne_spec hchk.1
      cases hE : isE oq.op with
      | true => exact turn (fun q' r'' e => by simp at e; obtain ⟨rfl, rfl⟩ := e; exact ⟨oq, hcq.op, hE⟩)
      | false =>
        have hpl' : ∀ x, x ∈ pl ↔ x ∈ q :: pre ∨ x ∈ r' := fun x => by
          rw [hpl x]
          simp only [List.mem_cons]
          exact ⟨fun h => by rcases h with h | h | h <;> simp [h], fun h => by rcases h with (h | h) | h <;> simp [h]⟩
        have hpre' : ∀ p, p ∈ pre → ∃ op, ops[p]? = some op ∧ (∀ s, op.dst = some s → oq.dst ≠ some s) ∧ (∀ s, oq.dst = some s → s ∉ looks ops op) := fun p hp => by
          obtain ⟨op, hop, _, c2, c3, c4⟩ := hcq.pre p hp
          exact ⟨op, hop, c2, fun s h1 h2 => by have := (c4 s h1 h2).1; rw [hE] at this; simp at this⟩
        have go : ∀ {ns : List Nat} {v : V} {m1 : Mem} {new : List Ent} {made' read' : List (Nat × List Nat)}, (∀ n, n ∈ ns → n ∉ pickBefore (bf.getD q 0) made) →
            nonE P ops (cutF fr (looks ops oq)) ⟨mE.next, cutEnt mE.l ns⟩ oq = some (v, m1) → takeNew mE.next m1 = some new → (∀ x, x ∈ made → x ∈ made') →
            (∀ n, n ∈ entNames new → ∃ x, x ∈ made' ∧ x.1 = q ∧ n ∈ x.2) → (∀ x, x ∈ made' → x ∈ made ∨ x = (q, entNames new)) → (∀ x, x ∈ read → x ∈ read') →
            (∀ n, n ∈ ns → ∃ x, x ∈ read' ∧ x.1 = q ∧ n ∈ x.2) → drawC P J call ops bf r' made' read' (fr.put oq.dst v) ⟨Nat.succ m1.next, new ++ mE.l⟩ k = some r → wpAny P .any ops Q fuel listed a w := by
          intro ns v m1 new made' read' c1 c2 c3 c4 c5 c6 c7 c8 hk
          obtain ⟨p, hp, h'⟩ := h.push hcq.op hE hcq.fresh hcq.self hpre' c1 c2 c3 c4 c5 c6 c7 c8
          exact ih fuel r' (q :: pre) made' read' _ _ (p :: ps) listed a w ρ I (by simp only [List.length_cons] at hN; omega) hcnt hpl' hchk.2 h' hk
        simp only [drawC, hcq.op, hE, cond_false] at hdraw
        split at hdraw
        · rename_i hns
          split at hdraw
          · rename_i v m1 hnon
            split at hdraw
            · rename_i htk
              exact go (ns := []) (by simp) (by simpa [cutEnt] using hnon) htk (fun _ h => h) (by simp [entNames]) (fun x hx => .inl hx) (fun _ h => h) (by simp) (by simpa using hdraw)
            · rename_i new hne htk
              exact go (ns := []) (by simp) (by simpa [cutEnt] using hnon) htk (fun x hx => List.mem_cons_of_mem _ hx) (fun n hn => ⟨_, List.mem_cons_self, rfl, hn⟩)
                (fun x hx => (List.mem_cons.1 hx).symm) (fun _ h => h) (by simp) hdraw
            · simp at hdraw
          · simp at hdraw
        · rename_i hns
          cases hmt : meetsN (pickBefore (bf.getD q 0) made) (readsOf mE (cutF fr (looks ops oq))) with
          | true => rw [hmt] at hdraw; simp at hdraw
          | false =>
            rw [hmt, cond_false] at hdraw
            have hmeet : ∀ n, n ∈ readsOf mE (cutF fr (looks ops oq)) → n ∉ pickBefore (bf.getD q 0) made := fun n h1 h2 => by
              rw [meetsN_iff.2 ⟨n, h1, h2⟩] at hmt; simp at hmt
            split at hdraw
            · rename_i v m1 hnon
              split at hdraw
              · rename_i htk
                exact go hmeet hnon htk (fun _ h => h) (by simp [entNames]) (fun x hx => .inl hx) (fun x hx => List.mem_cons_of_mem _ hx)
                  (fun n hn => ⟨_, List.mem_cons_self, rfl, hn⟩) (by simpa using hdraw)
              · rename_i new hne htk
                exact go hmeet hnon htk (fun x hx => List.mem_cons_of_mem _ hx) (fun n hn => ⟨_, List.mem_cons_self, rfl, hn⟩)
                  (fun x hx => (List.mem_cons.1 hx).symm) (fun x hx => List.mem_cons_of_mem _ hx) (fun n hn => ⟨_, List.mem_cons_self, rfl, hn⟩) hdraw
              · simp at hdraw
            · simp at hdraw

theorem drawC_sound (hJ : Joins J) (hcall : CallS P call) (hmx : P.follows .mixedOrders = true) {n : Nat} (hok : okRegion n ops = true) {fr : Frame} {mem : Mem}
    (h : drawC P J call ops (Region.before ops) (plan ops) [] [] fr mem k = some r)
    {ρ : Nm} {I : Im} {a : Act} {w : World} (hm : MemR ρ I mem w) (hfr : Fresh ρ mem) (hf : FrameR ρ I fr a.tmps) (hsz : a.tmps.size = n) (hdf : a.defers = [])
    (hQ : Gives n ρ I mem w k r Q) (id : Nat) : (Code.region id ops true).wp P Q a w := by
  unfold okRegion at hok
  simp only [Bool.and_eq_true] at hok
  obtain ⟨hd, hchk, hall⟩ := hok
  refine wp_region_any hmx ?_
  have hm' := hm.drawn (w.drawn + 1)
  refine draw_main hJ hcall hd (fun q hq => ?_) (fun i hi => ?_) hchk hQ _ ops.size (plan ops) [] [] [] fr mem [] _ a _ ρ I (Nat.le_refl _) (by simp) (by simp) hchk ?_ h
  · obtain ⟨pre', o, hc, _⟩ := chkPlan_mem hchk q hq
    exact ⟨pre', o, hc⟩
  · have := List.all_eq_true.1 hall i (by simpa using hi)
    exact hasN_iff.1 this
  · refine ⟨by simp, fun i => ?_, by simp, by simp, fun i k hi => ?_, ?_, fun n g hn => .inl hn, Nat.le_refl _, fun n e he _ => he, fun s v hs _ => hf s v hs, hsz, hdf, by simp, by simp, by simp, by simp, by simp, hfr, hm.wf⟩
    · simp [Array.getElem?_replicate]
    · simp [Array.getElem?_replicate] at hi
    · have := (StepR.drawn hm (w.drawn + 1)).toStepC
      simpa [pn, mark_nil] using this

end
end Go.Ab
