/- Finding keys. -/
import Derived.Test.YtecfekfenhacpaaGreatAbOpsI
namespace Go.Ab
open Go
set_option linter.unusedVariables false
set_option linter.unusedSimpArgs false
variable {R : Type} {P : Program}

theorem bytes_beq (a b : List UInt8) : ((⟨a.toArray⟩ : ByteArray) == ⟨b.toArray⟩) = (a == b) := by
  have h1 : ((⟨a.toArray⟩ : ByteArray) == ⟨b.toArray⟩) = (a.toArray == b.toArray) := rfl
  rw [h1]; simp

/-- two keys compare as the evaluator says. -/
theorem eqKey_sound {I : Im} {key : TypeId} {td : TypeDesc} {kk : KK} {x y : D} {cx cy : Value} {b : Bool} (hu : P.underlying key = some td) (hsc : kk.sc = isScalar td) (hks : cellKinds P 20 key = some kk.ks)
    (h : eqKey kk x y = some b) (rx : RD I x cx) (ry : RD I y cy) (w : World) :
    (Op.equal key cx cy).run P w = .ok b w ∧ (Instr.sameNow td cx cy = if isScalar td then some b else none) := by
  unfold eqKey at h
  split at h
  · rename_i hx hy hs
    rw [hs] at hsc
    obtain ⟨xs, ax, rfl, rfl, rx⟩ := fits_cells rx hx
    obtain ⟨ys, ay, rfl, rfl, ry⟩ := fits_cells ry hy
    have hagg : eqAgg P key (.agg xs) (.agg ys) = some b := by
      have hc := hks
      simp only [cellKinds] at hc
      unfold eqAgg
      cases td <;> simp [isScalar] at hsc <;> simp [hu] at hc ⊢ <;> simp [hks, D.aggCells] <;> exact h
    obtain ⟨_, _, e1, e2, _, he⟩ := eqAgg_sound hagg rx ry w
    refine ⟨he, ?_⟩
    rw [← hsc]
    simp only [Bool.false_eq_true, if_false]
    cases td <;> first | rfl | (simp [isScalar] at hsc)
  · rename_i hx hy hs
    rw [hs] at hsc
    rw [D.cells_of_notAgg hx, D.cells_of_notAgg hy] at h
    cases td <;> simp [isScalar] at hsc
    all_goals
      simp only [cellKinds, hu] at hks
      simp at hks
      rw [← hks] at h
      simp only [eqCells, eqCell, Option.bind_eq_some_iff] at h
      obtain ⟨a, ⟨p, hp, q, hq, e⟩, c, hc, e'⟩ := h
      simp at hc e e'; subst hc; subst e; simp at e'; subst e'
    · obtain rfl := cellBool_zero hx hp
      obtain rfl := cellBool_zero hy hq
      cases rx; cases ry
      exact ⟨run_equalIn_bool' w _ key _ _ hu, rfl⟩
    · obtain rfl := cellInt_zero hx hp
      obtain rfl := cellInt_zero hy hq
      cases rx; cases ry
      exact ⟨run_equalIn_int w _ key _ _ _ _ hu, by simp [Instr.sameNow, isScalar]⟩
    · obtain rfl := cellStr_zero hx hp
      obtain rfl := cellStr_zero hy hq
      cases rx; cases ry
      refine ⟨?_, by simp only [Instr.sameNow, isScalar, if_true]; rw [bytes_beq]⟩
      have := run_equalIn_string (P := P) w 9999 key ⟨p.toArray⟩ ⟨q.toArray⟩ hu
      rw [toList_mk, toList_mk] at this
      exact this
  · simp at h

/-- the first entry with a key, or none. -/
def FirstAt (kk : KK) (x : D) (es : List (Nat × D × V)) : Option Nat → Prop
  | none => ∀ (i : Nat) (e : Nat × D × V), es[i]? = some e → eqKey kk x e.2.1 = some false
  | some i => (∃ e, es[i]? = some e ∧ eqKey kk x e.2.1 = some true) ∧ ∀ (j : Nat) (e : Nat × D × V), j < i → es[j]? = some e → eqKey kk x e.2.1 = some false

theorem FirstAt.none_cons {kk : KK} {x : D} {e : Nat × D × V} {es : List (Nat × D × V)} (h : eqKey kk x e.2.1 = some false) (ht : FirstAt kk x es none) : FirstAt kk x (e :: es) none := by
  intro i e' he
  cases i with
  | zero => simp at he; subst he; exact h
  | succ i => exact ht i e' (by simpa using he)

theorem FirstAt.some_cons {kk : KK} {x : D} {e : Nat × D × V} {es : List (Nat × D × V)} {i : Nat} (h : eqKey kk x e.2.1 = some false) (ht : FirstAt kk x es (some i)) : FirstAt kk x (e :: es) (some (i + 1)) := by
  obtain ⟨⟨e1, h1, h2⟩, h3⟩ := ht
  refine ⟨⟨e1, by simpa using h1, h2⟩, fun j e' hj he => ?_⟩
  cases j with
  | zero => simp at he; subst he; exact h
  | succ j => exact h3 j e' (by omega) (by simpa using he)

theorem findC_spec {kk : KK} {x : D} : ∀ {es : List (Nat × D × V)} {k : Option V → Option R} {r : R}, findC kk x es k = some r →
    ∃ o, FirstAt kk x es o ∧ k (o.bind fun i => (es[i]?).map fun e => e.2.2) = some r
  | [], k, r, h => ⟨none, by intro i e he; simp at he, by simpa [findC] using h⟩
  | e :: es, k, r, h => by
    obtain ⟨n, y, v⟩ := e
    simp only [findC, Option.bind_eq_some_iff] at h
    obtain ⟨b, hb, h⟩ := h
    cases b with
    | true => exact ⟨some 0, ⟨⟨(n, y, v), rfl, hb⟩, by intro j e hj; omega⟩, by simpa using h⟩
    | false =>
      obtain ⟨o, h1, h2⟩ := findC_spec h
      cases o with
      | none => exact ⟨none, h1.none_cons hb, h2⟩
      | some i => exact ⟨some (i + 1), h1.some_cons hb, by simpa using h2⟩

def EntsR (ρ : Nm) (I : Im) (es : List (Nat × D × V)) (ces : List MapEntry) : Prop :=
  es.length = ces.length ∧ ∀ (i : Nat) (e : Nat × D × V) (c : MapEntry), es[i]? = some e → ces[i]? = some c → entR ρ I e c

theorem EntsR.cons {ρ : Nm} {I : Im} {e : Nat × D × V} {es : List (Nat × D × V)} {c : MapEntry} {ces : List MapEntry} (h : EntsR ρ I (e :: es) (c :: ces)) : entR ρ I e c ∧ EntsR ρ I es ces :=
  ⟨h.2 0 e c rfl rfl, by simpa using h.1, fun i e c he hc => h.2 (i + 1) e c (by simpa using he) (by simpa using hc)⟩

theorem FirstAt.cons_inv {kk : KK} {x : D} {e : Nat × D × V} {es : List (Nat × D × V)} {o : Option Nat} (h : FirstAt kk x (e :: es) o) :
    (eqKey kk x e.2.1 = some true ∧ o = some 0) ∨ (eqKey kk x e.2.1 = some false ∧ ∃ o', FirstAt kk x es o' ∧ o = o'.map (· + 1)) := by
  cases o with
  | none => exact .inr ⟨h 0 e rfl, none, fun i e' he => h (i + 1) e' (by simpa using he), rfl⟩
  | some i =>
    obtain ⟨⟨e1, h1, h2⟩, h3⟩ := h
    cases i with
    | zero => simp at h1; subst h1; exact .inl ⟨h2, rfl⟩
    | succ i => exact .inr ⟨h3 0 e (by omega) rfl, some i, ⟨⟨e1, by simpa using h1, h2⟩, fun j e' hj he => h3 (j + 1) e' (by omega) (by simpa using he)⟩, rfl⟩

theorem findAsking_sound {ρ : Nm} {I : Im} {key : TypeId} {td : TypeDesc} {kk : KK} {x : D} {cx : Value} (hu : P.underlying key = some td) (hsc : kk.sc = isScalar td) (hks : cellKinds P 20 key = some kk.ks) (rx : RD I x cx) (w : World) :
    ∀ {es : List (Nat × D × V)} {ces : List MapEntry} {o : Option Nat} (s : Nat), EntsR ρ I es ces → FirstAt kk x es o →
    (Instr.findAsking key cx ces s).run P w = .ok (o.bind fun i => (ces[i]?).map fun e => (s + i, e.val)) w
  | [], [], o, s, he, hf => by
    cases o with
    | none => simp [Instr.findAsking]
    | some i => obtain ⟨⟨e, h, _⟩, _⟩ := hf; simp at h
  | [], c :: ces, o, s, he, hf => by simp [EntsR] at he
  | e :: es, [], o, s, he, hf => by simp [EntsR] at he
  | e :: es, c :: ces, o, s, he, hf => by
    obtain ⟨⟨_, h2, _, _⟩, he⟩ := he.cons
    rcases hf.cons_inv with ⟨hb, rfl⟩ | ⟨hb, o', hf', rfl⟩
    · have := (eqKey_sound hu hsc hks hb rx h2 w).1
      simp [Instr.findAsking, this]
    · have := (eqKey_sound hu hsc hks hb rx h2 w).1
      have ih := findAsking_sound hu hsc hks rx w (s + 1) he hf'
      simp only [Instr.findAsking, Sem.run_bind, this, Result.andThen_ok, Bool.false_eq_true, if_false, ih]
      cases o' with
      | none => rfl
      | some i => simp [Nat.add_assoc, Nat.add_comm 1 i]

theorem findNow_sound {ρ : Nm} {I : Im} {key : TypeId} {td : TypeDesc} {kk : KK} {x : D} {cx : Value} (hu : P.underlying key = some td) (hsc : kk.sc = isScalar td) (hks : cellKinds P 20 key = some kk.ks) (rx : RD I x cx) (w : World) (hs : isScalar td = true) :
    ∀ {es : List (Nat × D × V)} {ces : List MapEntry} {o : Option Nat} (s : Nat), EntsR ρ I es ces → FirstAt kk x es o →
    Instr.findNow td cx ces s = some (o.bind fun i => (ces[i]?).map fun e => (s + i, e.val))
  | [], [], o, s, he, hf => by
    cases o with
    | none => simp [Instr.findNow]
    | some i => obtain ⟨⟨e, h, _⟩, _⟩ := hf; simp at h
  | [], c :: ces, o, s, he, hf => by simp [EntsR] at he
  | e :: es, [], o, s, he, hf => by simp [EntsR] at he
  | e :: es, c :: ces, o, s, he, hf => by
    obtain ⟨⟨_, h2, _, _⟩, he⟩ := he.cons
    rcases hf.cons_inv with ⟨hb, rfl⟩ | ⟨hb, o', hf', rfl⟩
    · have := (eqKey_sound hu hsc hks hb rx h2 w).2
      rw [hs] at this
      simp [Instr.findNow, this]
    · have := (eqKey_sound hu hsc hks hb rx h2 w).2
      rw [hs] at this
      have ih := findNow_sound hu hsc hks rx w hs (s + 1) he hf'
      simp only [Instr.findNow, this, if_true, ih]
      cases o' with
      | none => rfl
      | some i => simp [Nat.add_assoc, Nat.add_comm 1 i]

end Go.Ab
