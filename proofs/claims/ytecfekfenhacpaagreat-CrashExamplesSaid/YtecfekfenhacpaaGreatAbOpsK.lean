/- Lookups. -/
import Derived.Test.YtecfekfenhacpaaGreatAbOpsJ
import Derived.Laws.IdiomMaps
namespace Go.Ab
open Go
set_option linter.unusedVariables false
set_option linter.unusedSimpArgs false
variable {R : Type} {P : Program}

theorem findKey_sound {ρ : Nm} {I : Im} {key : TypeId} {td : TypeDesc} {kk : KK} {x : D} {cx : Value} (hu : P.underlying key = some td) (hsc : kk.sc = isScalar td) (hks : cellKinds P 20 key = some kk.ks) (rx : RD I x cx) (w : World)
    {es : List (Nat × D × V)} {ces : List MapEntry} {o : Option Nat} (he : EntsR ρ I es ces) (hf : FirstAt kk x es o) :
    (Instr.findKey key cx ces).run P w = .ok (o.bind fun i => (ces[i]?).map fun e => (i, e.val)) w := by
  have ha := findAsking_sound hu hsc hks rx w 0 he hf
  simp only [Nat.zero_add] at ha
  simp only [Instr.findKey, Sem.run_bind, run_underlying hu, Result.andThen_ok]
  cases hs : isScalar td with
  | true =>
    have hn := findNow_sound hu hsc hks rx w hs 0 he hf
    simp only [Nat.zero_add] at hn
    rw [hn]; rfl
  | false =>
    cases ces with
    | nil =>
      cases es with
      | nil =>
        cases o with
        | none => simp [Instr.findNow]
        | some i => obtain ⟨⟨e, h, _⟩, _⟩ := hf; simp at h
      | cons => simp [EntsR] at he
    | cons c ces =>
      cases es with
      | nil => simp [EntsR] at he
      | cons e es =>
        have hn : Instr.findNow td cx (c :: ces) 0 = none := by
          obtain ⟨⟨_, h2, _, _⟩, _⟩ := he.cons
          have key : ∀ b, eqKey kk x e.2.1 = some b → Instr.sameNow td cx c.key = none := fun b hb => by
            have := (eqKey_sound hu hsc hks hb rx h2 w).2
            rwa [hs] at this
          have : Instr.sameNow td cx c.key = none := by
            rcases hf.cons_inv with ⟨hb, _⟩ | ⟨hb, _⟩ <;> exact key _ hb
          simp [Instr.findNow, this]
        rw [hn]; exact ha

theorem run_getObj_map {w : World} {b : Nat} {ces : Array MapEntry} {clock : Nat} (h : w.heap[b]? = some (.map ces clock)) : (getObj b).run P w = .ok (.map ces clock) w := by
  simp [getObj, Sem.run, h]

theorem okV_sound {ρ : Nm} {I : Im} {v : V} {c : Value} (ok b : Bool) (h : RV ρ I v c) : RV ρ I (okV ok v b) (if ok then .tuple #[c, .bool b] else c) := by
  cases ok
  · exact h
  · exact RV.tup2 b h

theorem lookupC_sound {t : TypeId} {m : Mem} {x ix : V} {ok : Bool} {k : V → Option R} {r : R} (h : lookupC P t m x ix ok k = some r) :
    ∃ v, k v = some r ∧ ∀ ρ I (cx ci : Value) (w : World), MemR ρ I m w → RV ρ I x cx → RV ρ I ix ci → ∃ c, (Instr.lookup t cx ci ok).run P w = .ok c w ∧ RV ρ I v c := by
  unfold lookupC at h
  split at h
  · rename_i kk e d hmk
    obtain ⟨key, td, hu, huk, hsc, hks, hl⟩ := mapKinds_spec hmk
    cases hok : keyOk kk d with
    | false => simp [hok] at h
    | true =>
      rw [hok, cond_true] at h
      -- what is found
      have fin : ∀ {es : List (Nat × D × V)}, (∃ o, FirstAt kk d es o ∧ lookupFin P e ok k (o.bind fun i => (es[i]?).map fun e => e.2.2) = some r) →
          ∃ v, k v = some r ∧ ∀ ρ I (cx ci : Value) (ces : Array MapEntry) (w : World), RD I d ci → EntsR ρ I es ces.toList →
          (cx = .map none ∧ ces = #[] ∨ ∃ b clock, cx = .map (some b) ∧ w.heap[b]? = some (.map ces clock)) → ∃ c, (Instr.lookup t cx ci ok).run P w = .ok c w ∧ RV ρ I v c := by
        rintro es ⟨o, hf, h⟩
        unfold lookupFin at h
        split at h
        · rename_i v hv
          refine ⟨_, h, fun ρ I cx ci ces w rx he hcx => ?_⟩
          simp only [Option.bind_eq_some_iff, Option.map_eq_some_iff] at hv
          obtain ⟨i, rfl, en, hen, rfl⟩ := hv
          have hi : i < ces.toList.length := by rw [← he.1]; exact getElem?_range hen
          have hc : ces.toList[i]? = some ces.toList[i] := List.getElem?_eq_getElem hi
          obtain ⟨_, _, hv, _⟩ := he.2 i en _ hen hc
          have hfk := findKey_sound huk hsc hks rx w he hf
          simp only [Option.bind_some, hc, Option.map_some] at hfk
          refine ⟨_, ?_, okV_sound ok true hv⟩
          rcases hcx with ⟨rfl, rfl⟩ | ⟨b, clock, rfl, hb⟩
          · simp at hi
          · simp [Instr.lookup, run_underlying hu, run_getObj_map hb, checkKey_ok huk hsc hks hl rx hok, hfk]
        · rename_i hv
          split at h
          · rename_i z hz
            refine ⟨_, h, fun ρ I cx ci ces w rx he hcx => ?_⟩
            obtain ⟨cz, hrun, hrz⟩ := zeroD_sound hz
            have ho : o = none := by
              cases o with
              | none => rfl
              | some i => obtain ⟨⟨en, h1, _⟩, _⟩ := hf; simp [h1] at hv
            subst ho
            have hfk := findKey_sound huk hsc hks rx w he hf
            simp only [Option.bind_none] at hfk
            refine ⟨_, ?_, okV_sound ok false (.d _ _ (hrz I))⟩
            rcases hcx with ⟨rfl, rfl⟩ | ⟨b, clock, rfl, hb⟩
            · simp at hfk
              simp [Instr.lookup, run_underlying hu, checkKey_ok huk hsc hks hl rx hok, hfk, hrun]
            · simp [Instr.lookup, run_underlying hu, run_getObj_map hb, checkKey_ok huk hsc hks hl rx hok, hfk, hrun]
          · simp at h
      split at h
      · obtain ⟨v, hk, hv⟩ := fin (es := []) ⟨none, by intro i e he; simp at he, h⟩
        refine ⟨v, hk, fun ρ I cx ci w hm hx hi => ?_⟩
        cases hx with | d _ _ hx =>
        cases hx
        cases hi with | d _ _ hi => exact hv ρ I _ ci #[] w hi ⟨rfl, by intro i e c he; simp at he⟩ (.inl ⟨rfl, rfl⟩)
      · rename_i n
        split at h
        · rename_i es clock hg
          obtain ⟨v, hk, hv⟩ := fin (findC_spec h)
          refine ⟨v, hk, fun ρ I cx ci w hm hx hi => ?_⟩
          obtain ⟨g, hρ, ces, hb, hl, he⟩ := hm.blk n _ hg
          cases hx with | mp _ g' hg' =>
          obtain rfl : g' = g := by rw [hρ] at hg'; simpa using hg'.symm
          cases hi with | d _ _ hi => exact hv ρ I _ ci ces w hi ⟨by simpa using hl, fun i e c he' hc => he i e c he' (by simpa using hc)⟩ (.inr ⟨g'.b, clock, rfl, hb⟩)
        · simp at h
      · simp at h
  · simp at h

end Go.Ab
