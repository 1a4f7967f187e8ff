/- Operations with calls; guards; regions in the text's order. -/
import Derived.Test.YtecfekfenhacpaaGreatAbOpsR
namespace Go.Ab
open Go
set_option linter.unusedVariables false
set_option linter.unusedSimpArgs false
variable {R : Type} {P : Program}

/-- what a call of a function by its number does: the model enters it, or answers at once. -/
def Does (P : Program) (f : FuncId) (args : Array Value) (w : World) (Q : Ending → World → Prop) : Prop :=
  match (callFunc f args).run P w with
  | .ok (.enter g as) w1 => Calls P g as w1 Q
  | .ok (.value v) w1 => Q (.returned v) w1
  | _ => False

def ResR (ρ : Nm) (I : Im) : Res → Ending → Prop
  | .ret v, .returned c => RV ρ I v c
  | .pan v, .panicked l => ∃ c, l = [{ v := c, recovered := false }] ∧ RV ρ I v c
  | _, _ => False

def CallS (P : Program) (call : Caller R) : Prop :=
  ∀ f vs mem k r, call f vs mem k = some r → ∀ ρ I (args : Array Value) (w : World), MemR ρ I mem w → Fresh ρ mem → RVs ρ I vs args.toList →
    Does P f args w fun e w' => ∃ res mem' ρ' I', k res mem' = some r ∧ ResR ρ' I' res e ∧ StepR ρ I mem w ρ' I' mem' w'

theorem callOf_spec {op : Op} {c : Call} (h : callOf op = some c) : op = .call c ∧ ∀ b, c.callee ≠ .builtin b := by
  unfold callOf at h
  split at h
  · split at h
    · simp at h
    · rename_i hb
      simp at h; subst h
      exact ⟨rfl, hb⟩
  · simp at h

theorem depth_pos (P : Program) : ∃ n, P.types.size + Made.depth = n + 1 := ⟨P.types.size + Made.depth - 1, by unfold Made.depth; omega⟩

theorem targetC_sound {fr : Frame} {c : Call} {K : FuncId → List V → Option R} {r : R} {o : Oper} (ho : o.op = .call c) (h : targetC P fr c K = some r) :
    ∃ f vs, K f vs = some r ∧ ∀ ρ I (a : Act) (w : World), FrameR ρ I fr a.tmps → ∃ args : Array Value, (execOp a.eval o).run P w = (callFunc f args).run P w ∧ RVs ρ I vs args.toList := by
  unfold targetC at h
  split at h
  · rename_i x hcal
    obtain ⟨g, h, hg⟩ := evalC_sound h
    obtain ⟨vs, h, hvs⟩ := evalsC_sound h
    split at h
    · rename_i f _
      refine ⟨f, vs, h, fun ρ I a w hf => ⟨c.args.map a.eval, ?_, by simpa using hvs ρ I a hf⟩⟩
      have hx := (hg ρ I a hf).d_inv
      generalize he : a.eval x = cx at hx
      cases hx
      simp [execOp, ho, resolve, hcal, he, Deferred.ofValue, invoke]
    · rename_i f us cap _
      refine ⟨f, _, h, fun ρ I a w hf => ?_⟩
      have hx := hg ρ I a hf
      generalize he : a.eval x = cx at hx
      cases hx with | fnc _ _ _ as bs h1 h2 h3 h4 =>
      refine ⟨as ++ c.args.map a.eval ++ bs, by simp [execOp, ho, resolve, hcal, he, Deferred.ofValue, invoke], ?_⟩
      have r1 : RVs ρ I us as.toList := ⟨by simpa using h1, fun j x y e ey => h3 j x y e (by simpa using ey)⟩
      have r2 : RVs ρ I cap bs.toList := ⟨by simpa using h2, fun j x y e ey => h4 j x y e (by simpa using ey)⟩
      simpa using (r1.append (hvs ρ I a hf)).append r2
    · simp at h
  · rename_i recv name hcal
    obtain ⟨g, h, hg⟩ := evalC_sound h
    obtain ⟨vs, h, hvs⟩ := evalsC_sound h
    have main : ∀ (t : TypeId) (v : V), (∀ ρ I (a : Act), FrameR ρ I fr a.tmps → ∃ cv, a.eval recv = .iface t cv ∧ RV ρ I v cv) → targetC.meth P K t v vs name = some r →
        ∃ f vs, K f vs = some r ∧ ∀ ρ I (a : Act) (w : World), FrameR ρ I fr a.tmps → ∃ args : Array Value, (execOp a.eval o).run P w = (callFunc f args).run P w ∧ RVs ρ I vs args.toList := by
      intro t v hcv h
      unfold targetC.meth at h
      split at h
      · rename_i inf hinf
        split at h
        · rename_i mm hmm
          split at h
          · rename_i hpath
            have hp : mm.path.toList = [] := by simpa using hpath
            have fin : ∀ (f : FuncId), (∀ (cv : Value) (w : World), (method (P.types.size + Made.depth) t cv name).run P w = .ok (f, cv) w) → K f (v :: vs) = some r →
                ∃ f vs, K f vs = some r ∧ ∀ ρ I (a : Act) (w : World), FrameR ρ I fr a.tmps → ∃ args : Array Value, (execOp a.eval o).run P w = (callFunc f args).run P w ∧ RVs ρ I vs args.toList := by
              intro f hm hk
              refine ⟨f, _, hk, fun ρ I a w hf => ?_⟩
              obtain ⟨cv, he, hr⟩ := hcv ρ I a hf
              refine ⟨#[cv] ++ c.args.map a.eval, ?_, ?_⟩
              · have e0 : (#[a.eval recv] ++ c.args.map a.eval).extract 1 (#[a.eval recv] ++ c.args.map a.eval).size = c.args.map a.eval := by
                  apply Array.toList_inj.1
                  simp only [Array.toList_extract, Array.toList_append, Array.toList_map]
                  simp [List.take_of_length_le]
                have e1 : (#[a.eval recv] ++ c.args.map a.eval)[0]? = some (.iface t cv) := by rw [← Array.getElem?_toList, Array.toList_append, he]; rfl
                simp only [execOp, ho, resolve, hcal, Sem.run_bind, Sem.run_pure, Result.andThen_ok, invoke, e1, e0, callMethod]
                have hpr : (program).run P w = .ok P w := rfl
                simp only [hpr, Result.andThen_ok, hm]
              · simpa using RVs.cons hr (hvs ρ I a hf)
            have hti : ∀ w : World, (typeInfo t).run P w = .ok inf w := fun w => run_typeInfo w hinf
            obtain ⟨n, hn⟩ := depth_pos P
            split at h
            · rename_i f q hfn hu
              refine fin f (fun cv w => ?_) h
              rw [hn]
              simp [method, hti, hmm, hp, follow, hfn, receiverAt, run_underlying hu, Place.get]
            · simp at h
            · rename_i f td hnp hfn hu
              refine fin f (fun cv w => ?_) h
              rw [hn]
              simp only [method, Sem.run_bind, hti, Result.andThen_ok, hmm, hp, follow, hfn, receiverAt, run_underlying hu, Sem.run_pure]
              cases td <;> first | rfl | (exact absurd rfl (by simpa using hnp _))
            · simp at h
          · simp at h
        · simp at h
      · simp at h
    split at h
    · rename_i t v _
      refine main t v (fun ρ I a hf => ?_) h
      have hx := hg ρ I a hf
      generalize he : a.eval recv = cx at hx
      cases hx with | iface _ _ cv hr => exact ⟨cv, rfl, hr⟩
    · rename_i t v _
      refine main t (.d v) (fun ρ I a hf => ?_) h
      have hx := (hg ρ I a hf).d_inv
      generalize he : a.eval recv = cx at hx
      cases hx with | iface _ _ cv hr => exact ⟨cv, rfl, .d _ _ hr⟩
    · simp at h
  · simp at h

variable {J : Option R → Option R → Option R} {call : Caller R} {fr : Frame} {mem : Mem} {o : Oper} {k : Res → Mem → Option R} {r : R}

theorem operC_sound (hJ : Joins J) (hcall : CallS P call) (h : operC P J call fr mem o k = some r) {ρ : Nm} {I : Im} {a : Act} {w : World} (hm : MemR ρ I mem w) (hfr : Fresh ρ mem) (hf : FrameR ρ I fr a.tmps)
    {next : Act → World → Prop} {Q : Exit → Act → World → Prop}
    (hn : ∀ v c mem' ρ' I' w', k (.ret v) mem' = some r → RV ρ' I' v c → StepR ρ I mem w ρ' I' mem' w' → next (a.put o.dst c) w')
    (hp : ∀ v c mem' ρ' I' w', k (.pan v) mem' = some r → RV ρ' I' v c → StepR ρ I mem w ρ' I' mem' w' → Q (.panic [{ v := c, recovered := false }]) a w') : o.wp P a w next Q := by
  unfold operC at h
  split at h
  · rename_i c hc
    obtain ⟨ho, _⟩ := callOf_spec hc
    obtain ⟨f, vs, h, ht⟩ := targetC_sound ho h
    obtain ⟨args, hex, hvs⟩ := ht ρ I a w hf
    have hd := hcall f vs mem k r h ρ I args w hm hfr hvs
    unfold Oper.wp
    rw [hex]
    unfold Does at hd
    split at hd
    · rename_i g as w1 hr
      rw [hr, Oper.upon_enter]
      refine hd.mono fun e w' ⟨res, mem', ρ', I', hk, hres, hst⟩ => ?_
      cases e with
      | returned c => cases res with
        | ret v => exact hn v c mem' ρ' I' w' hk hres hst
        | pan v => exact hres.elim
      | panicked chain => cases res with
        | ret v => exact hres.elim
        | pan v =>
          obtain ⟨c, rfl, hr⟩ := hres
          exact hp v c mem' ρ' I' w' hk hr hst
      | outgrown => cases res <;> exact hres.elim
    · rename_i c w1 hr
      rw [hr, Oper.upon_value]
      obtain ⟨res, mem', ρ', I', hk, hres, hst⟩ := hd
      cases res with
      | ret v => exact hn v c mem' ρ' I' _ hk hres hst
      | pan v => exact hres.elim
    · exact hd.elim
  · have main : opC P J fr mem o.op (fun v mem => k (.ret v) mem) = some r → o.wp P a w next Q := by
      intro h
      obtain ⟨x, w', v, m', ρ', I', hrun, hk, hx, hst⟩ := opS_sound hJ h ρ I a w hm (hfr _ (Nat.le_refl _)) hf
      unfold Oper.wp
      rw [hrun]
      cases x with
      | value c => rw [Oper.upon_value]; exact hn v c m' ρ' I' w' hk hx hst
      | skip => simp only at hx; subst hx; rw [Oper.upon_skip]; exact hn .und undef m' ρ' I' w' hk .und hst
      | _ => exact hx.elim
    split at h
    · rename_i x hop
      obtain ⟨v, h, hv⟩ := evalC_sound h
      have hx := hv ρ I a hf
      have fin : ∀ t c, a.eval x = .iface t c → ∀ u, k (.pan u) mem = some r → RV ρ I u (.iface t c) → o.wp P a w next Q := by
        intro t c he u hk hr
        unfold Oper.wp
        have : (execOp a.eval o).run P w = .halt (.panic (.iface t c)) w := by simp [execOp, hop, he, Instr.panic, goPanic, Result.andThen]
        rw [this, Oper.upon_panic]
        exact hp u _ mem ρ I w hk hr (.refl hm)
      generalize he : a.eval x = cx at hx fin
      split at h
      · cases hx with | iface _ _ c hr => exact fin _ c rfl _ h (.iface _ _ c hr)
      · cases hx with | d _ _ hx => cases hx with | iface _ _ c hr => exact fin _ c rfl _ h (.d _ _ (.iface _ _ c hr))
      · simp at h
    · exact main h

/-! ### guards -/

theorem guardSlot_yield {ops : Array Oper} {j s : Nat} (h : guardSlot ops j = some s) (tmps : Array Value) : yielded ops tmps j = match tmps[s]? with | some (.bool b) => some b | _ => none := by
  unfold guardSlot at h
  split at h
  · rename_i o ho
    simp only [yielded, ho, h, Option.bind_some]
    cases tmps[s]? with
    | none => rfl
    | some v => cases v <;> rfl
  · simp at h

theorem guardedC_sound (hJ : Joins J) (hcall : CallS P call) {ops : Array Oper} (h : guardedC P J call ops fr mem o k = some r) {ρ : Nm} {I : Im} {a : Act} {w : World} (hm : MemR ρ I mem w) (hfr : Fresh ρ mem) (hf : FrameR ρ I fr a.tmps)
    {next : Act → World → Prop} {Q : Exit → Act → World → Prop}
    (hn : ∀ v c mem' ρ' I' w', k (.ret v) mem' = some r → RV ρ' I' v c → StepR ρ I mem w ρ' I' mem' w' → next (a.put o.dst c) w')
    (hp : ∀ v c mem' ρ' I' w', k (.pan v) mem' = some r → RV ρ' I' v c → StepR ρ I mem w ρ' I' mem' w' → Q (.panic [{ v := c, recovered := false }]) a w') :
    if Region.wanted o (yielded ops a.tmps) then o.wp P a w next Q else next (a.put o.dst undef) w := by
  unfold guardedC at h
  split at h
  · rename_i hg
    rw [if_pos (by simp [Region.wanted, hg])]
    exact operC_sound hJ hcall h hm hfr hf hn hp
  · rename_i j want hg
    split at h
    · rename_i s hs
      have hy := guardSlot_yield hs a.tmps
      split at h
      · rename_i b hb
        obtain ⟨y, hy1, hy2⟩ := hf _ _ hb
        have e := hy2.bool_inv
        subst e
        rw [hy1] at hy
        have hw : Region.wanted o (yielded ops a.tmps) = (b == want) := by simp only [Region.wanted, hg, hy]; cases b <;> cases want <;> rfl
        rw [hw]
        cases b with
        | true =>
          cases want with
          | true => exact operC_sound hJ hcall h hm hfr hf hn hp
          | false => exact hn .und undef mem ρ I w h .und (.refl hm)
        | false =>
          cases want with
          | true => exact hn .und undef mem ρ I w h .und (.refl hm)
          | false => exact operC_sound hJ hcall h hm hfr hf hn hp
      · rename_i hb
        obtain ⟨y, hy1, hy2⟩ := hf _ _ hb
        cases hy2
        rw [hy1] at hy
        have hw : Region.wanted o (yielded ops a.tmps) = false := by simp [Region.wanted, hg, hy, undef]
        rw [hw]
        exact hn .und undef mem ρ I w h .und (.refl hm)
      · simp at h
    · simp at h

theorem FrameR.put {ρ : Nm} {I : Im} {a : Act} {d : Option Nat} {v : V} {c : Value} (hf : FrameR ρ I fr a.tmps) (hd : ∀ s, d = some s → s < a.tmps.size) (hr : RV ρ I v c) : FrameR ρ I (fr.put d v) (a.put d c).tmps := by
  cases d with
  | none => exact hf
  | some s =>
    intro n u hu
    simp only [Frame.put, Frame.get_set] at hu
    simp only [Act.put, Array.getElem?_setIfInBounds]
    split at hu
    · rename_i e; subst e; simp at hu; subst hu
      exact ⟨c, by simp [hd n rfl], hr⟩
    · rename_i e
      rw [if_neg (Ne.symm e)]
      exact hf n u hu

theorem put_size (a : Act) (d : Option Nat) (c : Value) : (a.put d c).tmps.size = a.tmps.size := by
  cases d <;> simp [Act.put]

theorem put_defers (a : Act) (d : Option Nat) (c : Value) : (a.put d c).defers = a.defers := by
  cases d <;> rfl

def ExR (ρ : Nm) (I : Im) : Ex → Exit → Prop
  | .norm, .normal => True
  | .exit i, .exit j => i = j
  | .goto i, .goto j => i = j
  | .ret, .ret => True
  | .pan v, .panic l => ∃ c, l = [{ v := c, recovered := false }] ∧ RV ρ I v c
  | _, _ => False

/-- what a piece of code gives to whoever goes on from it. -/
def Gives (n : Nat) (ρ : Nm) (I : Im) (mem : Mem) (w : World) (k : Ex → Frame → Mem → Option R) (r : R) (Q : Exit → Act → World → Prop) : Prop :=
  ∀ e fr' mem' ρ' I' e' (a' : Act) w', k e fr' mem' = some r → StepR ρ I mem w ρ' I' mem' w' → FrameR ρ' I' fr' a'.tmps → a'.tmps.size = n → a'.defers = [] → ExR ρ' I' e e' → Q e' a' w'

theorem dstOk_spec {n : Nat} {o : Oper} (h : dstOk n o = true) : ∀ s, o.dst = some s → s < n := fun s e => by
  simp only [dstOk, e] at h
  simpa using h

theorem wpOps_range {ops : Array Oper} {Q : Exit → Act → World → Prop} : ∀ (l : List Oper) (i : Nat) (a : Act) (w : World), (∀ (j : Nat), ops[i + j]? = l[j]?) →
    ∀ (S : List Oper → Act → World → Prop), (∀ a w, S [] a w → Q .normal a w) →
    (∀ o l a w, S (o :: l) a w → if Region.wanted o (yielded ops a.tmps) then o.wp P a w (S l) Q else S l (a.put o.dst undef) w) → S l a w → wpOps P ops Q (List.range' i l.length) a w
  | [], i, a, w, hl, S, h0, h1, hs => h0 a w hs
  | o :: l, i, a, w, hl, S, h0, h1, hs => by
    have ho : ops[i]? = some o := by have := hl 0; simpa using this
    have ih := fun a w hs => wpOps_range l (i + 1) a w (fun j => by have := hl (j + 1); rw [show i + 1 + j = i + (j + 1) by omega]; simpa using this) S h0 h1 hs
    simp only [List.length_cons, List.range'_succ]
    rw [wpOps_cons]
    unfold wpOp
    rw [ho]
    have := h1 o l a w hs
    simp only
    split
    · rename_i hw
      rw [if_pos hw] at this
      exact .inl (Oper.wp_mono (fun a w hs => ih a w hs) this)
    · rename_i hw
      rw [if_neg hw] at this
      exact ih _ _ this

theorem opsC_sound (hJ : Joins J) (hcall : CallS P call) {ops : Array Oper} {n : Nat} (hd : ops.toList.all (dstOk n) = true) {k : Ex → Frame → Mem → Option R} (h : opsC P J call ops ops.toList fr mem k = some r)
    {ρ : Nm} {I : Im} {a : Act} {w : World} (hm : MemR ρ I mem w) (hfr : Fresh ρ mem) (hf : FrameR ρ I fr a.tmps) (hsz : a.tmps.size = n) (hdf : a.defers = [])
    {Q : Exit → Act → World → Prop} (hQ : Gives n ρ I mem w k r Q) (id : Nat) : (Code.region id ops false).wp P Q a w := by
  refine wp_region ?_
  have hr : List.range ops.size = List.range' 0 ops.toList.length := by rw [List.range_eq_range']; simp
  rw [hr]
  refine wpOps_range ops.toList 0 a w (fun j => by simp) (fun l a' w' => (∀ o, o ∈ l → dstOk n o = true) ∧ ∃ fr' mem' ρ' I', opsC P J call ops l fr' mem' k = some r ∧ StepR ρ I mem w ρ' I' mem' w' ∧ FrameR ρ' I' fr' a'.tmps ∧ a'.tmps.size = n ∧ a'.defers = [])
    ?_ ?_ ⟨fun o ho => List.all_eq_true.1 hd o ho, fr, mem, ρ, I, h, .refl hm, hf, hsz, hdf⟩
  · rintro a' w' ⟨_, fr', mem', ρ', I', h1, h2, h3, h4, h5⟩
    exact hQ .norm fr' mem' ρ' I' .normal a' w' h1 h2 h3 h4 h5 trivial
  · rintro o l a' w' ⟨hd', fr', mem', ρ', I', h1, h2, h3, h4, h5⟩
    simp only [opsC] at h1
    refine guardedC_sound hJ hcall h1 h2.mem (hfr.step h2) h3 (fun v c mem2 ρ2 I2 w2 hk hv hst => ?_) (fun v c mem2 ρ2 I2 w2 hk hv hst => ?_)
    · refine ⟨fun o' ho' => hd' o' (by simp [ho']), _, mem2, ρ2, I2, hk, h2.trans hst, ?_, by rw [put_size]; exact h4, by rw [put_defers]; exact h5⟩
      exact (h3.mono hst.ext hst.exi).put (fun s e => by rw [h4]; exact dstOk_spec (hd' o (by simp)) s e) hv
    · exact hQ (.pan v) fr' mem2 ρ2 I2 _ a' w2 hk (h2.trans hst) (h3.mono hst.ext hst.exi) h4 h5 ⟨c, rfl, hv⟩

end Go.Ab
