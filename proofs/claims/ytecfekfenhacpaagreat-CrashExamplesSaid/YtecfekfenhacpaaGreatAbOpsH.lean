/- len, min, max, type assertions, clear. -/
import Derived.Test.YtecfekfenhacpaaGreatAbOpsG
namespace Go.Ab
open Go
set_option linter.unusedVariables false
set_option linter.unusedSimpArgs false
variable {R : Type} {P : Program}

theorem RV.tup2 {ρ : Nm} {I : Im} {v : V} {c : Value} (b : Bool) (h : RV ρ I v c) : RV ρ I (.tup [v, .d (.bool b)]) (.tuple #[c, .bool b]) := by
  refine .tup _ _ rfl fun j x y e ey => ?_
  match j with
  | 0 => simp at e ey; subst e; subst ey; exact h
  | 1 => simp at e ey; subst e; subst ey; exact .d _ _ (.bool b)
  | j + 2 => simp at e

theorem assertC_sound {x : V} {asserted : TypeId} {ok : Bool} {k : V → Option R} {r : R} (h : assertC P x asserted ok k = some r) :
    ∃ v, k v = some r ∧ ∀ ρ I (cx : Value) (xt : TypeId) (w : World), RV ρ I x cx → ∃ c, (Instr.typeAssert cx xt asserted ok).run P w = .ok c w ∧ RV ρ I v c := by
  have no : ∀ {tdd : TypeDesc}, P.underlying asserted = some tdd → (∀ ms, tdd ≠ .interface ms) → assertNo P asserted ok k = some r → ∃ v, k v = some r ∧ ∀ ρ I (cx : Value) (xt : TypeId) (w : World), (cx = .nilIface ∨ ∃ t v, cx = .iface t v ∧ t ≠ asserted) → ∃ c, (Instr.typeAssert cx xt asserted ok).run P w = .ok c w ∧ RV ρ I v c := by
    intro tdd hu hni h
    unfold assertNo at h
    split at h
    · split at h
      · rename_i z hz
        refine ⟨_, h, fun ρ I cx xt w hcx => ?_⟩
        obtain ⟨cz, hrun, hrz⟩ := zeroD_sound hz
        refine ⟨.tuple #[cz, .bool false], ?_, RV.tup2 false (.d _ _ (hrz I))⟩
        rcases hcx with rfl | ⟨t, v, rfl, hne⟩
        · cases tdd <;> first | (exact absurd rfl (hni _)) | simp [Instr.typeAssert, run_underlying hu, hrun]
        · cases tdd <;> first | (exact absurd rfl (hni _)) | simp [Instr.typeAssert, run_underlying hu, hrun, hne]
      · simp at h
    · simp at h
  have yes : ∀ {tdd : TypeDesc}, P.underlying asserted = some tdd → (∀ ms, tdd ≠ .interface ms) → ∀ (xt : TypeId) (c : Value) (w : World),
      (Instr.typeAssert (.iface asserted c) xt asserted ok).run P w = .ok (if ok then .tuple #[c, .bool true] else c) w := by
    intro tdd hu hni xt c w
    cases tdd <;> first | (exact absurd rfl (hni _)) | simp [Instr.typeAssert, run_underlying hu]
  unfold assertC at h
  split at h
  · simp at h
  · rename_i tdd hni hu
    have hni : ∀ ms, tdd ≠ .interface ms := fun ms e => hni ms (by rw [e])
    split at h
    · obtain ⟨v, hk, hv⟩ := no hu hni h
      refine ⟨v, hk, fun ρ I cx xt w hx => hv ρ I cx xt w (.inl ?_)⟩
      cases hx with | d _ _ hx => cases hx; rfl
    · rename_i t v
      split at h
      · rename_i ht
        subst ht
        refine ⟨_, h, fun ρ I cx xt w hx => ?_⟩
        cases hx with | iface _ _ c hx =>
        refine ⟨_, yes hu hni xt c w, ?_⟩
        cases ok
        · exact hx
        · exact RV.tup2 true hx
      · rename_i ht
        obtain ⟨v', hk, hv⟩ := no hu hni h
        refine ⟨v', hk, fun ρ I cx xt w hx => ?_⟩
        cases hx with | iface _ _ c hx => exact hv ρ I _ xt w (.inr ⟨t, c, rfl, ht⟩)
    · rename_i t v
      split at h
      · rename_i ht
        subst ht
        refine ⟨_, h, fun ρ I cx xt w hx => ?_⟩
        cases hx with | d _ _ hx =>
        cases hx with | iface _ _ c hx =>
        refine ⟨_, yes hu hni xt c w, ?_⟩
        cases ok
        · exact .d _ _ hx
        · exact RV.tup2 true (.d _ _ hx)
      · rename_i ht
        obtain ⟨v', hk, hv⟩ := no hu hni h
        refine ⟨v', hk, fun ρ I cx xt w hx => ?_⟩
        cases hx with | d _ _ hx =>
        cases hx with | iface _ _ c hx => exact hv ρ I _ xt w (.inr ⟨t, c, rfl, ht⟩)
    · simp at h
  · simp at h

theorem run_len_sl {t ty e : TypeId} (hu : P.underlying t = some (.slice e)) (a : Option Addr) (n c : Nat) (w : World) : (Builtin.len_ #[t] ty #[.slice a n c]).run P w = .ok (goInt n) w := by
  simp [Builtin.len_, run_underlying hu]

theorem lenV_sound {tk : TK} {m : Mem} {v : V} {k : V → Option R} {r : R} (h : lenV m tk v k = some r) :
    ∃ u, k u = some r ∧ ∀ {t ty e : TypeId}, P.underlying t = some (.slice e) → ∀ ρ I (c : Value) (w : World), MemR ρ I m w → RV ρ I v c → ∃ c', (Builtin.len_ #[t] ty #[c]).run P w = .ok c' w ∧ RV ρ I u c' := by
  unfold lenV at h
  split at h
  · refine ⟨_, h, fun {t ty e} hu ρ I c w hm hv => ?_⟩
    cases hv with | view => exact ⟨_, run_len_sl hu _ _ _ w, .d _ _ (.int _ _)⟩
  · refine ⟨_, h, fun {t ty e} hu ρ I c w hm hv => ?_⟩
    cases hv with | osl => exact ⟨_, run_len_sl hu _ _ _ w, .d _ _ (.int _ _)⟩
  · obtain ⟨rw_, h, hel⟩ := elemsC_sound h
    refine ⟨_, h, fun {t ty e} hu ρ I c w hm hv => ?_⟩
    obtain ⟨a, cap, b, o, hsl⟩ := hel ρ I c w hm hv
    rw [hsl.val]
    exact ⟨_, run_len_sl hu _ _ _ w, .d _ _ (.int _ _)⟩

theorem minC_sound {l : List V} {k : V → Option R} {r : R} (h : minC l k = some r) :
    ∃ v, k v = some r ∧ ∀ ρ I (cs : List Value) ts t (w : World), RVs ρ I l cs → ∃ c, (Builtin.min_ ts t cs.toArray).run P w = .ok c w ∧ RV ρ I v c := by
  unfold minC at h
  split at h
  · split at h
    · rename_i ik a jk b hk
      subst hk
      refine ⟨_, h, fun ρ I cs ts t w hr => ?_⟩
      obtain ⟨c1, cs, rfl, r1, hr⟩ := hr.cons_inv
      obtain ⟨c2, cs, rfl, r2, hr⟩ := hr.cons_inv
      obtain rfl := hr.nil_inv
      cases r1 with | d _ _ r1 =>
      cases r1
      cases r2 with | d _ _ r2 =>
      cases r2
      exact ⟨_, run_min_int2 w ts t ik ik a b, .d _ _ (.int _ _)⟩
    · simp at h
  · simp at h

theorem maxC_sound {l : List V} {k : V → Option R} {r : R} (h : maxC l k = some r) :
    ∃ v, k v = some r ∧ ∀ ρ I (cs : List Value) ts t (w : World), RVs ρ I l cs → ∃ c, (Builtin.max_ ts t cs.toArray).run P w = .ok c w ∧ RV ρ I v c := by
  unfold maxC at h
  split at h
  · split at h
    · rename_i ik a jk b hk
      subst hk
      refine ⟨_, h, fun ρ I cs ts t w hr => ?_⟩
      obtain ⟨c1, cs, rfl, r1, hr⟩ := hr.cons_inv
      obtain ⟨c2, cs, rfl, r2, hr⟩ := hr.cons_inv
      obtain rfl := hr.nil_inv
      cases r1 with | d _ _ r1 =>
      cases r1
      cases r2 with | d _ _ r2 =>
      cases r2
      exact ⟨_, run_max_int2 w ts t ik ik a b, .d _ _ (.int _ _)⟩
    · simp at h
  · simp at h

end Go.Ab
