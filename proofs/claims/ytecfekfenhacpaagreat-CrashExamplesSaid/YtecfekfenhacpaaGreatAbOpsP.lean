/- An iteration's entry; every operation that calls nothing. -/
import Derived.Test.YtecfekfenhacpaaGreatAbOpsO
namespace Go.Ab
open Go
set_option linter.unusedVariables false
set_option linter.unusedSimpArgs false
variable {R : Type} {P : Program}

theorem lastOf_spec : ∀ {l : List Nat} {n : Nat}, lastOf l = some n → l.toArray.back? = some n
  | [], n, h => by simp [lastOf] at h
  | [a], n, h => by simp [lastOf] at h; subst h; rfl
  | a :: b :: l, n, h => by
    have ih := lastOf_spec (l := b :: l) (n := n) (by simpa [lastOf] using h)
    simp only [List.back?_toArray] at ih ⊢
    simpa [List.getLast?_cons_cons] using ih

theorem entryOf_spec {ρ : Nm} {I : Im} {born : Nat} {x : D × V} : ∀ {es : List (Nat × D × V)} {ces : List MapEntry}, EntsR ρ I es ces → entryOf born es = some x →
    ∃ c, ces.find? (fun e => e.born == born) = some c ∧ RD I x.1 c.key ∧ RV ρ I x.2 c.val
  | [], ces, h, he => by simp [entryOf] at he
  | e :: es, [], h, he => by simp [EntsR] at h
  | e :: es, c :: ces, h, he => by
    obtain ⟨h1, h2⟩ := h.cons
    simp only [entryOf] at he
    cases hb : Nat.beq e.1 born with
    | true =>
      simp [hb] at he; subst he
      have := beq_true.1 hb
      refine ⟨c, ?_, h1.2.1, h1.2.2.1⟩
      rw [List.find?_cons]
      have : (c.born == born) = true := by rw [← h1.1, this]; simp
      rw [this]
    | false =>
      rw [hb, cond_false] at he
      obtain ⟨c', h3, h4⟩ := entryOf_spec h2 he
      refine ⟨c', ?_, h4⟩
      rw [List.find?_cons]
      have h5 := beq_false.1 hb
      have : (c.born == born) = false := by rw [← h1.1]; simpa using h5
      rw [this]; exact h3

theorem entryC_sound {m : Mem} {i : V} {k : V → Option R} {r : R} (h : entryC m i k = some r) :
    ∃ v, k v = some r ∧ ∀ ρ I (ci : Value) (w : World), MemR ρ I m w → RV ρ I i ci → ∃ c, (Instr.entry ci).run P w = .ok c w ∧ RV ρ I v c := by
  unfold entryC at h
  split at h
  · rename_i n
    split at h
    · rename_i mn since seen last hg
      split at h
      · rename_i born es clock hlast hmg
        cases hcl : Nat.beq clock last with
        | false => simp [hcl] at h
        | true =>
          rw [hcl, cond_true] at h
          obtain rfl := beq_true.1 hcl
          split at h
          · rename_i e he
            refine ⟨_, h, fun ρ I ci w hm hi => ?_⟩
            obtain ⟨g, q, hρ, rfl, hb, g', hρ', rfl⟩ := iter_of hm hg hi
            obtain ⟨g2, ces, hρ2, e2, hbm, hes⟩ := map_of hm hmg (RV.mp mn g' hρ')
            obtain rfl : g2 = g' := by rw [hρ'] at hρ2; simpa using hρ2.symm
            obtain ⟨c, h1, h2, h3⟩ := entryOf_spec hes he
            refine ⟨.tuple #[c.key, c.val], ?_, ?_⟩
            · have hl := lastOf_spec hlast
              have h1' : ces.find? (fun e => e.born == born) = some c := by rw [← Array.find?_toList]; exact h1
              simp only [Instr.entry, Sem.run_bind, run_getObj_iter hb, Result.andThen_ok, hl, run_getObj_map hbm, h1']
              simp
            · refine .tup _ _ rfl fun j x y e ey => ?_
              match j with
              | 0 => simp at e ey; subst e; subst ey; exact .d _ _ h2
              | 1 => simp at e ey; subst e; subst ey; exact h3
              | j + 2 => simp at e
          · simp at h
      · simp at h
    · simp at h
  · simp at h

theorem OpS.of {fr : Frame} {m : Mem} {o : Oper} {Q : V → Mem → Prop} {v : V} (hq : Q v m)
    (h : ∀ ρ I (a : Act) (w : World), MemR ρ I m w → FrameR ρ I fr a.tmps → ∃ c, (execOp a.eval o).run P w = .ok (.value c) w ∧ RV ρ I v c) : OpS P fr m o Q := OpS.pure hq h

end Go.Ab
