/- Maps. -/
import Derived.Test.YtecfekfenhacpaaGreatAbOpsH
namespace Go.Ab
open Go
set_option linter.unusedVariables false
set_option linter.unusedSimpArgs false
variable {R : Type} {P : Program}

/-- keys of a type whose cells compare are keys. -/
def PartKey (P : Program) (I : Im) (em : Bool) (t : TypeId) (ks : List TK) (d : Nat) : Prop :=
  ∀ (w : World) (xs : Array Value) (o : Nat) (l : List D), CR I l xs o → l.length = ks.length → ks.length = P.cellsOf t →
    ∃ x, (part t xs o).run P w = .ok x w ∧ (Instr.checkKey em d t x).run P w = .ok () w

theorem run_forIn_list {α : Type} {w : World} {f : α → PUnit → Sem (ForInStep PUnit)} : ∀ (l : List α), (∀ a, a ∈ l → (f a ⟨⟩).run P w = .ok (.yield ⟨⟩) w) → (forIn l PUnit.unit f).run P w = .ok ⟨⟩ w
  | [], _ => by simp
  | a :: l, h => by
    simp only [List.forIn_cons, Sem.run_bind, h a (by simp), Result.andThen_ok]
    exact run_forIn_list l fun b hb => h b (by simp [hb])

theorem partKey_scalar {I : Im} {em : Bool} {t : TypeId} {td : TypeDesc} (hu : P.underlying t = some td) (hd : (match td with | .struct _ | .array _ _ | .interface _ => true | _ => false) = false) {tk : TK} {d : Nat} :
    PartKey P I em t [tk] (d + 1) := by
  intro w xs o l hl h1 hc
  obtain ⟨x, rfl⟩ := List.length_eq_one_iff.1 h1
  obtain ⟨nx, cx, hcx, rx⟩ := hl 0 x rfl
  have hag : (isAgg t).run P w = .ok false w := by
    simp only [isAgg, Sem.run_bind, run_underlying hu, Result.andThen_ok]
    cases td <;> first | rfl | (simp at hd)
  refine ⟨cx, ?_, ?_⟩
  · simp only [part, Sem.run_bind, hag, Result.andThen_ok]; simp at hcx; simp [hcx]
  · cases td <;> first | (simp at hd; done) | simp [Instr.checkKey, run_underlying hu]

theorem fieldKinds_key {I : Im} {em : Bool} {kinds : TypeId → Option (List TK)} {d : Nat} (hk : ∀ t ks, kinds t = some ks → PartKey P I em t ks d) (w : World) (xs : Array Value) :
    ∀ (fs : List Field) (off : Nat) (ks : List TK) (l : List D), fieldKinds P kinds fs off = some ks → CR I l xs off → l.length = ks.length →
      ∀ f, f ∈ fs → f.name ≠ "_" ∧ ∃ x, (part f.type xs f.offset).run P w = .ok x w ∧ (Instr.checkKey em d f.type x).run P w = .ok () w
  | [], off, ks, l, h, hl, he, f, hf => by simp at hf
  | g :: fs, off, ks, l, h, hl, he, f, hf => by
    simp only [fieldKinds] at h
    split at h
    · simp at h
    rename_i hname
    split at h
    · rename_i hoff
      split at h
      · rename_i k1 hk1
        split at h
        · rename_i hlen
          split at h
          · rename_i k2 hk2
            simp at h; subst h
            simp only [List.length_append] at he
            rcases List.mem_cons.1 hf with rfl | hf
            · refine ⟨hname, ?_⟩
              rw [hoff]
              exact hk _ _ hk1 w xs off (l.take k1.length) hl.take (by simp; omega) hlen
            · exact fieldKinds_key hk w xs fs (off + k1.length) k2 (l.drop k1.length) hk2 hl.drop (by simp; omega) f hf
          · simp at h
        · simp at h
      · simp at h
    · simp at h

theorem cellKinds_key {I : Im} {em : Bool} : ∀ (n : Nat) (t : TypeId) (ks : List TK) (d : Nat), cellKinds P n t = some ks → n ≤ d → PartKey P I em t ks d
  | 0, t, ks, d, h, _ => by simp [cellKinds] at h
  | n + 1, t, ks, 0, h, hd => by omega
  | n + 1, t, ks, d + 1, h, hd => by
    simp only [cellKinds] at h
    split at h
    · rename_i hu; simp at h; subst h; exact partKey_scalar hu rfl
    · rename_i q hu; simp at h; subst h; exact partKey_scalar hu rfl
    · rename_i hu; simp at h; subst h; exact partKey_scalar hu rfl
    · rename_i fs hu
      split at h
      · simp at h
      · intro w xs o l hl he hc
        obtain ⟨i, hi⟩ := info_of_underlying hu
        refine ⟨_, run_part_agg (i := i) hu rfl xs o w, ?_⟩
        have key := fieldKinds_key (em := em) (d := d) (fun t' ks' h' => cellKinds_key n t' ks' d h' (by omega)) w (xs.extract o (o + P.cellsOf t)) fs.toList 0 ks l h (hl.extract (by omega)) he
        simp only [Instr.checkKey, Sem.run_bind, run_underlying hu, Result.andThen_ok]
        rw [← Array.forIn_toList]
        have := run_forIn_list (P := P) (w := w) (f := fun f _ => (do
          if f.name ≠ "_" then do
            Instr.checkKey em d f.type (← part f.type (xs.extract o (o + P.cellsOf t)) f.offset)
            pure (ForInStep.yield PUnit.unit)
          else pure (ForInStep.yield PUnit.unit))) fs.toList (fun f hf => by
            obtain ⟨k1, x, k2, k3⟩ := key f hf
            simp [k1, k2, k3])
        simp at this ⊢
        simp [this]
    · rename_i len e hu
      split at h
      · rename_i ke hke
        split at h
        · rename_i hlen
          simp at h; subst h
          intro w xs o l hl he hc
          obtain ⟨i, hi⟩ := info_of_underlying hu
          obtain ⟨i', hi'⟩ := cellKinds_info hke
          refine ⟨_, run_part_agg (i := i) hu rfl xs o w, ?_⟩
          have ihe := cellKinds_key (I := I) (em := em) n e ke d hke (by omega)
          have hl' := hl.extract (n := P.cellsOf t) (by omega)
          have hll : l.length = len * P.cellsOf e := by rw [he, List.length_flatten]; simp [hlen]
          have key : ∀ j, j < len → ∃ x, (part e (xs.extract o (o + P.cellsOf t)) (j * P.cellsOf e)).run P w = .ok x w ∧ (Instr.checkKey em d e x).run P w = .ok () w := fun j hj => by
            have h1 := (hl'.drop (n := j * P.cellsOf e)).take (n := P.cellsOf e)
            rw [Nat.zero_add] at h1
            have hle : (j + 1) * P.cellsOf e ≤ len * P.cellsOf e := Nat.mul_le_mul_right _ hj
            rw [Nat.add_mul, Nat.one_mul] at hle
            exact ihe w _ _ _ h1 (by simp; omega) hlen
          simp only [Instr.checkKey, Sem.run_bind, run_underlying hu, Result.andThen_ok, Std.Legacy.Range.forIn_eq_forIn_range']
          have := run_forIn_list (P := P) (w := w) (f := fun j _ => (do
            Instr.checkKey em d e (← part e (xs.extract o (o + P.cellsOf t)) (j * (← sizeOf e)))
            pure (ForInStep.yield PUnit.unit))) (List.range' 0 len 1) (fun j hj => by
              obtain ⟨x, k2, k3⟩ := key j (by simp at hj; omega)
              simp [run_sizeOf w hi', k2, k3])
          simp at this ⊢
          simp [this]
        · simp at h
      · simp at h
    · simp at h

theorem mapKinds_spec {t : TypeId} {kk : KK} {e : TypeId} (h : mapKinds P t = some (kk, e)) :
    ∃ key td, P.underlying t = some (.map key e) ∧ P.underlying key = some td ∧ kk.sc = isScalar td ∧ cellKinds P 20 key = some kk.ks ∧ kk.ks.length = P.cellsOf key := by
  unfold mapKinds at h
  split at h
  · rename_i key elem hu
    split at h
    · rename_i td hk
      split at h
      · rename_i ks hks
        cases hl : Nat.beq ks.length (P.cellsOf key) with
        | false => simp [hl] at h
        | true =>
          simp [hl] at h
          obtain ⟨rfl, rfl⟩ := h
          exact ⟨key, td, hu, hk, rfl, hks, beq_true.1 hl⟩
      · simp at h
    · simp at h
  · simp at h

theorem agg_extract {cs : List D} {arr : Array Value} {I : Im} (h : RD I (.agg cs) (.agg arr)) : cs.length = arr.size ∧ CR I cs arr 0 := by
  obtain ⟨arr', e, h1, h2⟩ := cr_of_rd h
  simp at e; subst e; exact ⟨h1, h2⟩

theorem checkKey_scalar {em : Bool} {key : TypeId} {td : TypeDesc} (hu : P.underlying key = some td) (hsc : isScalar td = true) (cx : Value) (d : Nat) (w : World) :
    (Instr.checkKey em (d + 1) key cx).run P w = .ok () w := by
  cases td <;> simp [isScalar] at hsc <;> simp [Instr.checkKey, run_underlying hu]

def isAggD : TypeDesc → Bool
  | .struct _ => true
  | .array _ _ => true
  | _ => false

theorem run_part_agg' {t : TypeId} {td : TypeDesc} (hu : P.underlying t = some td) (hd : isAggD td = true) (xs : Array Value) (o : Nat) (w : World) :
    (part t xs o).run P w = .ok (.agg (xs.extract o (o + P.cellsOf t))) w := by
  obtain ⟨i, hi⟩ := info_of_underlying hu
  exact run_part_agg (i := i) hu (by cases td <;> first | rfl | (simp [isAggD] at hd)) xs o w

/-- a key of a map is a key. -/
theorem checkKey_ok {em : Bool} {key : TypeId} {td : TypeDesc} {kk : KK} {x : D} {cx : Value} {I : Im} (hu : P.underlying key = some td) (hsc : kk.sc = isScalar td) (hks : cellKinds P 20 key = some kk.ks) (hl : kk.ks.length = P.cellsOf key)
    (hx : RD I x cx) (hok : keyOk kk x = true) (w : World) : (Instr.checkKey em 10000 key cx).run P w = .ok () w := by
  unfold keyOk at hok
  cases hs : kk.sc with
  | true =>
    exact checkKey_scalar hu (by rw [← hsc, hs]) cx 9999 w
  | false =>
    simp only [hs, Bool.and_eq_true] at hok
    obtain ⟨cs, arr, rfl, rfl, hr⟩ := fits_cells hx hok.1
    obtain ⟨h1, h2⟩ := agg_extract hr
    have hlen : cs.length = kk.ks.length := beq_true.1 hok.2
    have hd : isAggD td = true := by
      rw [hs] at hsc
      have hc := hks
      simp only [cellKinds] at hc
      split at hc <;> first | (rename_i hu'; rw [hu] at hu'; simp at hu'; subst hu'; simp [isScalar] at hsc; done) | skip
      · rename_i hu'; rw [hu] at hu'; simp at hu'; subst hu'; rfl
      · rename_i hu'; rw [hu] at hu'; simp at hu'; subst hu'; rfl
      · simp at hc
    obtain ⟨i, hi⟩ := info_of_underlying hu
    obtain ⟨y, hp, hc⟩ := cellKinds_key (P := P) (I := I) (em := em) 20 key kk.ks 10000 hks (by omega) w arr 0 cs h2 hlen hl
    rw [run_part_agg' hu hd arr 0 w] at hp
    simp at hp; subst hp
    have : arr.extract 0 (P.cellsOf key) = arr := by
      rw [← hl, ← hlen, h1]; simp
    rw [this] at hc
    exact hc

end Go.Ab
