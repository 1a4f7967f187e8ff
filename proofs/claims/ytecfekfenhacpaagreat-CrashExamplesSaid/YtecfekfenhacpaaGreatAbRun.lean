/- Code, results, bodies, calls: the evaluator is sound. -/
import Derived.Test.YtecfekfenhacpaaGreatAbDraw4
import Derived.LoopN
import Derived.Scope
namespace Go.Ab
open Go
set_option linter.unusedVariables false
set_option linter.unusedSimpArgs false
variable {R : Type} {P : Program} {J : Option R → Option R → Option R} {call : Caller R}

theorem Gives.trans {n : Nat} {ρ ρ' : Nm} {I I' : Im} {mem mem' : Mem} {w w' : World} {k : Ex → Frame → Mem → Option R} {r : R} {Q : Exit → Act → World → Prop} (h : Gives n ρ I mem w k r Q) (hst : StepR ρ I mem w ρ' I' mem' w') :
    Gives n ρ' I' mem' w' k r Q := fun e fr2 mem2 ρ2 I2 e' a2 w2 hk h2 hf hsz hd he => h e fr2 mem2 ρ2 I2 e' a2 w2 hk (hst.trans h2) hf hsz hd he

theorem exec_sound (hJ : Joins J) (hcall : CallS P call) (hmx : P.follows .mixedOrders = true) {n rounds : Nat} : ∀ (c : Code), codeOk n c = true → ∀ {fr : Frame} {mem : Mem} {k : Ex → Frame → Mem → Option R} {r : R},
    exec P J call rounds c fr mem k = some r → ∀ {ρ : Nm} {I : Im} {a : Act} {w : World} {Q : Exit → Act → World → Prop}, MemR ρ I mem w → Fresh ρ mem → FrameR ρ I fr a.tmps → a.tmps.size = n → a.defers = [] →
    Gives n ρ I mem w k r Q → c.wp P Q a w := by
  intro c
  induction c with
  | skip =>
    intro hok fr mem k r h ρ I a w Q hm hfr hf hsz hd hG
    exact wp_skip (hG .norm fr mem ρ I .normal a w (by simpa [exec] using h) (.refl hm) hf hsz hd trivial)
  | region id ops draw =>
    intro hok fr mem k r h ρ I a w Q hm hfr hf hsz hd hG
    cases draw with
    | false => exact opsC_sound hJ hcall (by simpa [codeOk] using hok) (by simpa [exec] using h) hm hfr hf hsz hd hG id
    | true => exact drawC_sound hJ hcall hmx (by simpa [codeOk] using hok) (by simpa [exec] using h) hm hfr hf hsz hd hG id
  | seq x y ihx ihy =>
    intro hok fr mem k r h ρ I a w Q hm hfr hf hsz hd hG
    simp only [codeOk, Bool.and_eq_true] at hok
    simp only [exec] at h
    refine wp_seq (ihx hok.1 h hm hfr hf hsz hd ?_)
    intro e fr' mem' ρ' I' e' a' w' hk hst hf' hsz' hd' he
    cases e with
    | norm =>
      cases e' <;> first | (exact he.elim) | skip
      exact ihy hok.2 hk hst.mem (hfr.step hst) hf' hsz' hd' (hG.trans hst)
    | _ =>
      have := hG _ fr' mem' ρ' I' e' a' w' hk hst hf' hsz' hd' he
      cases e' <;> first | exact this | exact he.elim
  | cond c x y ihx ihy =>
    intro hok fr mem k r h ρ I a w Q hm hfr hf hsz hd hG
    simp only [codeOk, Bool.and_eq_true] at hok
    simp only [exec] at h
    obtain ⟨v, h, hv⟩ := evalC_sound h
    split at h
    · rename_i t
      have hc := (hv ρ I a hf).bool_inv
      cases t with
      | true => exact wp_cond_true hc (ihx hok.1 h hm hfr hf hsz hd hG)
      | false => exact wp_cond_false hc (ihy hok.2 h hm hfr hf hsz hd hG)
    · simp at h
  | block id b ih =>
    intro hok fr mem k r h ρ I a w Q hm hfr hf hsz hd hG
    simp only [codeOk] at hok
    simp only [exec] at h
    refine wp_block (ih hok h hm hfr hf hsz hd ?_)
    intro e fr' mem' ρ' I' e' a' w' hk hst hf' hsz' hd' he
    cases e with
    | exit j =>
      cases e' <;> first | (exact he.elim) | skip
      rename_i j'
      have he : j = j' := he
      subst he
      simp only [Exit.inBlock]
      replace hk : (bif Nat.beq j id then k .norm fr' mem' else k (.exit j) fr' mem') = some r := hk
      cases hb : Nat.beq j id with
      | true =>
        rw [hb, cond_true] at hk
        rw [if_pos (beq_true.1 hb)]
        exact hG .norm fr' mem' ρ' I' .normal a' w' hk hst hf' hsz' hd' trivial
      | false =>
        rw [hb, cond_false] at hk
        rw [if_neg (beq_false.1 hb)]
        exact hG (.exit j) fr' mem' ρ' I' (.exit j) a' w' hk hst hf' hsz' hd' rfl
    | _ =>
      have := hG _ fr' mem' ρ' I' e' a' w' hk hst hf' hsz' hd' he
      cases e' <;> first | exact this | exact he.elim
  | loop b ih =>
    intro hok fr mem k r h ρ I a w Q hm hfr hf hsz hd hG
    simp only [codeOk] at hok
    simp only [exec] at h
    refine wp_loop_rounds rounds ?_
    have key : ∀ (i : Nat) {fr : Frame} {mem : Mem} {ρ : Nm} {I : Im} {a : Act} {w : World}, exec.go k (fun fr mem k => exec P J call rounds b fr mem k) i fr mem = some r → MemR ρ I mem w → Fresh ρ mem → FrameR ρ I fr a.tmps → a.tmps.size = n → a.defers = [] →
        Gives n ρ I mem w k r Q → Code.rounds P b Q i a w := by
      intro i
      induction i with
      | zero => intro fr mem ρ I a w h; simp [exec.go] at h
      | succ i ihi =>
        intro fr mem ρ I a w h hm hfr hf hsz hd hG
        rw [rounds_succ]
        simp only [exec.go] at h
        refine ih hok h hm hfr hf hsz hd ?_
        intro e fr' mem' ρ' I' e' a' w' hk hst hf' hsz' hd' he
        cases e with
        | norm =>
          cases e' <;> first | (exact he.elim) | skip
          exact ihi hk hst.mem (hfr.step hst) hf' hsz' hd' (hG.trans hst)
        | _ =>
          have := hG _ fr' mem' ρ' I' e' a' w' hk hst hf' hsz' hd' he
          cases e' <;> first | exact this | exact he.elim
    exact key rounds h hm hfr hf hsz hd hG
  | rangeFunc f ps as b _ _ =>
    intro hok fr mem k r h
    simp [exec] at h
  | exit id =>
    intro hok fr mem k r h ρ I a w Q hm hfr hf hsz hd hG
    exact wp_exit (hG (.exit id) fr mem ρ I (.exit id) a w (by simpa [exec] using h) (.refl hm) hf hsz hd rfl)
  | scope b ih =>
    intro hok fr mem k r h ρ I a w Q hm hfr hf hsz hd hG
    simp only [codeOk] at hok
    simp only [exec] at h
    refine wp_scope_straight (ih hok h hm hfr hf hsz hd ?_)
    intro e fr' mem' ρ' I' e' a' w' hk hst hf' hsz' hd' he
    cases e with
    | goto l => simp at hk
    | _ =>
      have := hG _ fr' mem' ρ' I' e' a' w' hk hst hf' hsz' hd' he
      cases e' <;> first | exact this | exact he.elim
  | label l =>
    intro hok fr mem k r h ρ I a w Q hm hfr hf hsz hd hG
    exact wp_label (hG .norm fr mem ρ I .normal a w (by simpa [exec] using h) (.refl hm) hf hsz hd trivial)
  | goto l =>
    intro hok fr mem k r h ρ I a w Q hm hfr hf hsz hd hG
    exact wp_goto (hG (.goto l) fr mem ρ I (.goto l) a w (by simpa [exec] using h) (.refl hm) hf hsz hd rfl)
  | ret =>
    intro hok fr mem k r h ρ I a w Q hm hfr hf hsz hd hG
    exact wp_ret (hG .ret fr mem ρ I .ret a w (by simpa [exec] using h) (.refl hm) hf hsz hd trivial)
  | refuse s =>
    intro hok fr mem k r h
    simp [exec] at h

/-! ### results -/

def resVal (tmps : Array Value) : ResultVar → Sem Value
  | .tmp t => pure (tmps.getD t undef)
  | .cell a t => do loadVar t (← asAddr (tmps.getD a undef))

theorem getD_some {tmps : Array Value} {t : Nat} {y : Value} (h : tmps[t]? = some y) : tmps.getD t undef = y := by
  rw [Array.getD_eq_getD_getElem?, h]; rfl

theorem resultC_sound {fr : Frame} {mem : Mem} {x : ResultVar} {k : V → Option R} {r : R} (h : resultC P fr mem x k = some r) :
    ∃ v, k v = some r ∧ ∀ ρ I (tmps : Array Value) (w : World), MemR ρ I mem w → FrameR ρ I fr tmps → ∃ c, (resVal tmps x).run P w = .ok c w ∧ RV ρ I v c := by
  unfold resultC at h
  split at h
  · rename_i t
    split at h
    · rename_i v hv
      refine ⟨v, h, fun ρ I tmps w hm hf => ?_⟩
      obtain ⟨y, hy, hr⟩ := hf _ _ hv
      exact ⟨y, by simp [resVal, getD_some hy], hr⟩
    · simp at h
  · rename_i a t
    split at h
    · rename_i v hv
      obtain ⟨u, hk, hu⟩ := loadC_sound h
      refine ⟨u, hk, fun ρ I tmps w hm hf => ?_⟩
      obtain ⟨y, hy, hr⟩ := hf _ _ hv
      obtain ⟨_, c, h1, h2⟩ := hu ρ I y w hm hr
      refine ⟨c, ?_, h2⟩
      simp only [resVal, getD_some hy]
      simp only [Instr.loadAt, Sem.run_bind] at h1 ⊢
      cases y with
      | pointer p =>
        cases p with
        | none => simp [Instr.sureAddr, Result.andThen] at h1
        | some ad => simpa [Instr.sureAddr, asAddr] using h1
      | _ => simp [Instr.sureAddr, Result.andThen] at h1
    · simp at h

theorem resultsC_sound {fr : Frame} {mem : Mem} : ∀ {l : List ResultVar} {k : List V → Option R} {r : R}, resultsC P fr mem l k = some r →
    ∃ vs, k vs = some r ∧ ∀ ρ I (tmps : Array Value) (w : World), MemR ρ I mem w → FrameR ρ I fr tmps → ∃ cs, (l.mapM (resVal tmps)).run P w = .ok cs w ∧ RVs ρ I vs cs
  | [], k, r, h => ⟨[], h, fun ρ I tmps w hm hf => ⟨[], by simp, .nil⟩⟩
  | x :: l, k, r, h => by
    simp only [resultsC] at h
    obtain ⟨v, h, hv⟩ := resultC_sound h
    obtain ⟨vs, h, hvs⟩ := resultsC_sound h
    refine ⟨v :: vs, h, fun ρ I tmps w hm hf => ?_⟩
    obtain ⟨c, h1, h2⟩ := hv ρ I tmps w hm hf
    obtain ⟨cs, h3, h4⟩ := hvs ρ I tmps w hm hf
    exact ⟨c :: cs, by simp [List.mapM_cons, h1, h3], .cons h2 h4⟩

theorem oneOf_sound {ρ : Nm} {I : Im} {vs : List V} {cs : List Value} (h : RVs ρ I vs cs) : RV ρ I (oneOf vs) (if h : cs.toArray.size = 1 then cs.toArray[0] else .tuple cs.toArray) := by
  have tup : ∀ {vs : List V} {cs : List Value}, RVs ρ I vs cs → RV ρ I (.tup vs) (.tuple cs.toArray) := fun h =>
    .tup _ _ (by simpa using h.1) fun j x y e ey => h.2 j x y e (by simpa using ey)
  match vs, h with
  | [], h =>
    obtain rfl := h.nil_inv
    exact tup h
  | [v], h =>
    obtain ⟨c, cs, rfl, r, h⟩ := h.cons_inv
    obtain rfl := h.nil_inv
    exact r
  | v :: u :: vs, h =>
    obtain ⟨c, cs, rfl, r, h'⟩ := h.cons_inv
    obtain ⟨d, cs', rfl, r', h''⟩ := h'.cons_inv
    rw [dif_neg (by simp)]
    exact tup h

theorem results_run {fn : Func} {tmps : Array Value} {cs : List Value} {w : World} (h : (fn.results.toList.mapM (resVal tmps)).run P w = .ok cs w) :
    (results fn tmps).run P w = .ok (if h : cs.toArray.size = 1 then cs.toArray[0] else .tuple cs.toArray) w := by
  have e : results fn tmps = (do let vs ← (List.toArray <$> fn.results.toList.mapM (resVal tmps)); pure (if h : vs.size = 1 then vs[0] else .tuple vs)) := by
    unfold results
    rw [Array.mapM_eq_mapM_toList]
    congr 3
  rw [e]
  simp only [map_eq_pure_bind, Sem.run_bind, h, Result.andThen_ok, Sem.run_pure]

/-! ### bodies -/

theorem number_get : ∀ {vs : List V} {i n : Nat} {v : V}, Frame.get (number i vs) n = some v → i ≤ n ∧ vs[n - i]? = some v
  | [], i, n, v, h => by simp [number, Frame.get_nil, Frame.get_cons] at h
  | x :: vs, i, n, v, h => by
    simp only [number, Frame.get_nil, Frame.get_cons] at h
    cases hb : Nat.beq i n with
    | true =>
      rw [hb, cond_true] at h
      have := beq_true.1 hb
      subst this
      exact ⟨Nat.le_refl _, by simpa using h⟩
    | false =>
      rw [hb, cond_false] at h
      obtain ⟨h1, h2⟩ := number_get h
      have := beq_false.1 hb
      refine ⟨by omega, ?_⟩
      have e : n - i = (n - (i + 1)) + 1 := by omega
      rw [e]; simpa using h2

structure ProgOk (P : Program) : Prop where
  mixed : P.follows .mixedOrders = true
  funcs : ∀ (f : FuncId) (fn : Func), P.funcs[f]? = some fn → funcOk fn = true

theorem run_enter {f : FuncId} {fn : Func} {c : Code} (hP : ProgOk P) (hf : P.funcs[f]? = some fn) (hb : fn.body = some c) (args : Array Value) (w : World) :
    (callFunc f args).run P w = .ok (.enter f args) w := by
  have hok := hP.funcs f fn hf
  unfold funcOk at hok
  rw [hb] at hok
  simp only [Bool.and_eq_true, Bool.not_eq_true'] at hok
  have hpr : (program).run P w = .ok P w := rfl
  have h2 : (fn.name == "runtime.NumGoroutine") = false := hok.2
  have h3 : fn.name ≠ "runtime.NumGoroutine" := by simpa using h2
  simp [callFunc, hpr, hf, h3, hb]

theorem bodyC_sound (hJ : Joins J) (hcall : CallS P call) (hP : ProgOk P) {rounds : Nat} {f : FuncId} {vs : List V} {mem : Mem} {k : Res → Mem → Option R} {r : R} (h : bodyC P J call rounds f vs mem k = some r)
    {ρ : Nm} {I : Im} {args : Array Value} {w : World} (hm : MemR ρ I mem w) (hfr : Fresh ρ mem) (hvs : RVs ρ I vs args.toList) :
    Does P f args w fun e w' => ∃ res mem' ρ' I', k res mem' = some r ∧ ResR ρ' I' res e ∧ StepR ρ I mem w ρ' I' mem' w' := by
  unfold bodyC at h
  split at h
  · rename_i fn hf
    split at h
    · rename_i c hc
      split at h
      · rename_i hlen
        have hok := hP.funcs f fn hf
        unfold funcOk at hok
        rw [hc] at hok
        simp only [Bool.and_eq_true] at hok
        unfold Does
        rw [run_enter hP hf hc args w]
        simp only
        have hal : args.size = vs.length := by have := hvs.1; simpa using this.symm
        refine calls_of_wp hf hc (exec_sound hJ hcall hP.mixed (n := fn.ntmps) c hok.1 h hm hfr ?_ ?_ rfl ?_)
        · intro s v hs
          obtain ⟨_, h2⟩ := number_get hs
          simp only [Nat.sub_zero] at h2
          have hlt : s < args.size := by rw [hal]; exact getElem?_range h2
          refine ⟨args[s], by simp [Array.getElem?_append, hlt], hvs.2 s v _ h2 (by simp [hlt])⟩
        · simp only [Array.size_append, Array.size_replicate]; omega
        · intro e fr' mem' ρ' I' e' a' w' hk hst hf' hsz' hd' he
          have ret : resultsC P fr' mem' fn.results.toList (fun vs => k (.ret (oneOf vs)) mem') = some r → a'.defers = [] ∧ ∃ v, (results fn a'.tmps).run P w' = .ok v w' ∧
              ∃ res mem' ρ' I', k res mem' = some r ∧ ResR ρ' I' res (.returned v) ∧ StepR ρ I mem w ρ' I' mem' w' := by
            intro hk
            obtain ⟨us, hk, hus⟩ := resultsC_sound hk
            obtain ⟨cs, h1, h2⟩ := hus ρ' I' a'.tmps w' hst.mem hf'
            exact ⟨hd', _, results_run h1, .ret (oneOf us), mem', ρ', I', hk, oneOf_sound h2, hst⟩
          cases e with
          | norm =>
            cases e' <;> first | (exact he.elim) | skip
            exact ret hk
          | ret =>
            cases e' <;> first | (exact he.elim) | skip
            exact ret hk
          | pan v =>
            cases e' <;> first | (exact he.elim) | skip
            exact ⟨hd', .pan v, mem', ρ', I', hk, he, hst⟩
          | _ => simp at hk
      · simp at h
    · simp at h
  · simp at h

/-! ### calls -/

theorem dropNew_get {N n : Nat} : ∀ {l : List Ent}, getEnt (dropNew N l) n = if N ≤ n then none else getEnt l n
  | [] => by simp [dropNew, getEnt_nil, getEnt_cons]
  | e :: r => by
    have ih := dropNew_get (N := N) (n := n) (l := r)
    simp only [dropNew]
    cases hb : Nat.ble N e.n with
    | true =>
      have hle : N ≤ e.n := Nat.le_of_ble_eq_true hb
      simp only [cond_true, getEnt_nil, getEnt_cons, ih]
      cases hq : Nat.beq e.n n with
      | true => have := beq_true.1 hq; subst this; simp [hle]
      | false => simp
    | false =>
      have hlt : ¬ N ≤ e.n := fun h => by rw [Nat.ble_eq_true_of_le h] at hb; simp at hb
      simp only [cond_false, getEnt_nil, getEnt_cons, ih]
      cases hq : Nat.beq e.n n with
      | true => have := beq_true.1 hq; subst this; simp [hlt]
      | false => simp

theorem tidy_step {ρ ρ' : Nm} {I I' : Im} {mem mem1 : Mem} {w w' : World} (hm : MemR ρ I mem w) (res : Res) (h : StepR ρ I mem w ρ' I' mem1 w') : StepR ρ I mem w ρ' I' (tidy mem.next res mem1) w' := by
  unfold tidy
  cases Nat.ble mem1.next (mem.next + 24) with
  | true => exact h
  | false =>
  rw [cond_false]
  cases res.under mem.next && allUnder mem.next mem1.l with
  | false => exact h
  | true =>
    rw [cond_true]
    have hget : ∀ n e, getEnt (dropNew mem.next mem1.l) n = some e → getEnt mem1.l n = some e := fun n e he => by
      rw [dropNew_get] at he
      split at he
      · simp at he
      · exact he
    refine ⟨h.toStepC.same (fun n b hb => ?_) (fun n b hb => ?_) (fun n e he => h.mem.wf n e (hget n e he)), h.next, h.names, fun n e he hf => ?_⟩
    · obtain ⟨e, h1, h2⟩ := Mem.get_iff.1 hb
      exact Mem.get_iff.2 ⟨e, hget n e h1, h2⟩
    · obtain ⟨e, h1, h2⟩ := Mem.getW_iff.1 hb
      exact Mem.getW_iff.2 ⟨e, hget n e h1, h2⟩
    · show getEnt (dropNew mem.next mem1.l) n = some e
      rw [dropNew_get, if_neg (by have := hm.wf n e he; omega)]
      exact h.keep n e he hf

abbrev Over (R : Type) := FuncId → Option (List V → Mem → (Res → Mem → Option R) → Option R)

def OverS (P : Program) (T : Over R) : Prop :=
  ∀ f t, T f = some t → ∀ vs mem k r, t vs mem k = some r → ∀ ρ I (args : Array Value) (w : World), MemR ρ I mem w → Fresh ρ mem → RVs ρ I vs args.toList →
    Does P f args w fun e w' => ∃ res mem' ρ' I', k res mem' = some r ∧ ResR ρ' I' res e ∧ StepR ρ I mem w ρ' I' mem' w'

theorem Does.mono {f : FuncId} {args : Array Value} {w : World} {Q Q' : Ending → World → Prop} (h : Does P f args w Q) (hq : ∀ e w', Q e w' → Q' e w') : Does P f args w Q' := by
  unfold Does at *
  split at h
  · exact h.mono hq
  · exact hq _ _ h
  · exact h.elim

theorem callN_sound (hJ : Joins J) (hP : ProgOk P) {T : Over R} (hT : OverS P T) {rounds : Nat} : ∀ d, CallS P (callN P J T rounds d)
  | 0 => by intro f vs mem k r h; simp [callN] at h
  | d + 1 => by
    intro f vs mem k r h ρ I args w hm hfr hvs
    simp only [callN] at h
    split at h
    · rename_i t ht
      exact hT f t ht vs mem k r h ρ I args w hm hfr hvs
    · have := bodyC_sound hJ (callN_sound hJ hP hT d) hP h hm hfr hvs
      refine this.mono fun e w' ⟨res, mem', ρ', I', hk, hres, hst⟩ => ⟨res, _, ρ', I', hk, hres, tidy_step hm res hst⟩

/-- nothing is answered by a contract. -/
theorem overNone : OverS P (fun _ => none : Over R) := by intro f t h; simp at h

end Go.Ab
