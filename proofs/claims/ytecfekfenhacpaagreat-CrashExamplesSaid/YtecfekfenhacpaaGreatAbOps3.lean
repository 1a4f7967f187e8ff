/- Comparisons, conversions. -/
import Derived.Test.YtecfekfenhacpaaGreatAbOps2
import Derived.Laws.Pointers
namespace Go.Ab
open Go
set_option linter.unusedVariables false
set_option linter.unusedSimpArgs false
variable {R : Type} {P : Program}

/-- a value of a type that has a nil, and whether it is nil. -/
def nilIs (td : TypeDesc) (c : Value) : Option Bool :=
  match td with
  | .pointer _ => match c with | .pointer none => some true | .pointer (some _) => some false | _ => none
  | .slice _ => match c with | .slice none 0 0 => some true | .slice (some _) _ _ => some false | _ => none
  | .map _ _ => match c with | .map none => some true | .map (some _) => some false | _ => none
  | .func _ _ _ => match c with | .nilFunc => some true | .func _ _ _ => some false | _ => none
  | .interface _ => match c with | .nilIface => some true | .iface _ _ => some false | _ => none
  | _ => none

theorem nilC_sound {td : TypeDesc} {ρ : Nm} {I : Im} {v : V} {c : Value} {b : Bool} (h : nilC td v = some b) (hr : RV ρ I v c) : nilIs td c = some b := by
  cases td <;> simp only [nilC] at h <;> try (simp at h; done)
  all_goals
    cases hr with
    | d x c hr => cases hr <;> simp [D.isNils] at h <;> subst h <;> rfl
    | _ => first | (simp at h; subst h; rfl) | (simp at h; done)

theorem nil_equal {td : TypeDesc} {t : TypeId} {cx cy : Value} {a b : Bool} (hu : P.underlying t = some td) (hx : nilIs td cx = some a) (hy : nilIs td cy = some b)
    (hab : a = true ∨ b = true) (d : Nat) (w : World) : (Op.equalIn (d + 1) t cx cy).run P w = .ok (a && b) w := by
  cases td <;> simp only [nilIs] at hx hy <;> try (simp at hx; done)
  all_goals
    split at hx <;> simp at hx <;> subst hx <;> split at hy <;> simp at hy <;> subst hy <;> simp at hab <;> simp [Op.equalIn, run_underlying hu]

theorem eqV_sound {t : TypeId} {ox oy : Operand} {x y : V} {b : Bool} (h : eqV P t (isConst ox || isConst oy) x y = some b)
    {ρ : Nm} {I : Im} {cx cy : Value} (rx : RV ρ I x cx) (ry : RV ρ I y cy) (w : World) (op : BinOp) (ho : op = .eql ∨ op = .neq) :
    (eqGuard op t ox oy cx cy).run P w = .ok () w ∧ (Op.equal t cx cy).run P w = .ok b w ∧
      (∀ (k k' : IntKind) (m n : Int), ¬ (cx = .int k m ∧ cy = .int k' n)) ∧ (∀ m n, ¬ (cx = .string m ∧ cy = .string n)) ∧
      (∀ k k' m n, ¬ (cx = .float k m ∧ cy = .float k' n)) ∧ (∀ k k' m n m' n', ¬ (cx = .complex k m n ∧ cy = .complex k' m' n')) := by
  unfold eqV at h
  split at h
  · rename_i hu
    split at h
    · simp at h; subst h
      cases rx with | d _ _ rx => cases rx; cases ry with | d _ _ ry => cases ry; exact
        ⟨by rcases ho with rfl | rfl <;> simp [eqGuard], by unfold Op.equal Op.maxDepth; exact run_equalIn_bool' w _ t _ _ hu, by simp, by simp, by simp, by simp⟩
    · simp at h
  · rename_i fs hu
    split at h
    · cases rx with | d _ _ rx => cases ry with | d _ _ ry =>
        obtain ⟨xs, ys, rfl, rfl, hg, he⟩ := eqAgg_sound h rx ry w
        exact ⟨run_eqGuard_agg w op t ox oy xs ys hg, he, by simp, by simp, by simp, by simp⟩
    · simp at h
  · rename_i n e hu
    split at h
    · cases rx with | d _ _ rx => cases ry with | d _ _ ry =>
        obtain ⟨xs, ys, rfl, rfl, hg, he⟩ := eqAgg_sound h rx ry w
        exact ⟨run_eqGuard_agg w op t ox oy xs ys hg, he, by simp, by simp, by simp, by simp⟩
    · simp at h
  · rename_i td _ _ _ hu
    cases hc : (isConst ox || isConst oy || !isIfaceD td) with
    | false => simp [hc] at h
    | true =>
      rw [hc, cond_true] at h
      have key : ∀ a c, nilC td x = some a → nilC td y = some c → (a = true ∨ c = true) → b = (a && c) →
          (eqGuard op t ox oy cx cy).run P w = .ok () w ∧ (Op.equal t cx cy).run P w = .ok b w ∧
          (∀ (k k' : IntKind) (m n : Int), ¬ (cx = .int k m ∧ cy = .int k' n)) ∧ (∀ m n, ¬ (cx = .string m ∧ cy = .string n)) ∧
          (∀ k k' m n, ¬ (cx = .float k m ∧ cy = .float k' n)) ∧ (∀ k k' m n m' n', ¬ (cx = .complex k m n ∧ cy = .complex k' m' n')) := by
        intro a c ha hcy hac hb
        have na := nilC_sound ha rx
        have nc := nilC_sound hcy ry
        refine ⟨?_, by unfold Op.equal Op.maxDepth; rw [hb]; exact nil_equal hu na nc hac _ w, ?_, ?_, ?_, ?_⟩
        · unfold eqGuard
          rcases ho with rfl | rfl
          all_goals
            simp
            cases td <;> simp only [nilIs] at na nc <;> try (simp at na; done)
            all_goals (split at na <;> split at nc <;> first | rfl | (simp at na; done) | (simp at nc; done) | skip)
            all_goals
              have hc' : isConst ox = true ∨ isConst oy = true := by simpa [isIfaceD] using hc
              rcases hc' with hc' | hc' <;> (first | (cases ox <;> simp [isConst] at hc' <;> simp; done) | (cases oy <;> simp [isConst] at hc' <;> simp; done))
        all_goals
          intros
          rintro ⟨rfl, rfl⟩
          cases td <;> simp [nilIs] at na
      split at h
      · rename_i hy
        exact key b true h hy (.inr rfl) (by simp)
      · rename_i hy
        split at h
        · rename_i hx
          simp at h; subst h
          exact key true false hx hy (.inl rfl) (by simp)
        · simp at h
      · simp at h
  · simp at h

theorem binOp_eql_run {t : TypeId} {cx cy : Value} (h1 : ∀ (k k' : IntKind) (m n : Int), ¬ (cx = .int k m ∧ cy = .int k' n)) (h2 : ∀ m n, ¬ (cx = .string m ∧ cy = .string n))
    (h3 : ∀ k k' m n, ¬ (cx = .float k m ∧ cy = .float k' n)) (h4 : ∀ k k' m n m' n', ¬ (cx = .complex k m n ∧ cy = .complex k' m' n')) (w : World) :
    (binOp .eql t cx cy).run P w = ((Op.equal t cx cy).run P w).andThen (fun b w' => .ok (.bool b) w') ∧
    (binOp .neq t cx cy).run P w = ((Op.equal t cx cy).run P w).andThen (fun b w' => .ok (.bool (!b)) w') := by
  unfold binOp
  constructor
  all_goals
    split <;> first
      | (rename_i he _; simp at he; done)
      | (rename_i he; simp at he; done)
      | simp
      | skip
  all_goals
    first
    | (exact absurd ⟨rfl, rfl⟩ (h1 _ _ _ _))
    | (exact absurd ⟨rfl, rfl⟩ (h2 _ _))
    | (exact absurd ⟨rfl, rfl⟩ (h3 _ _ _ _))
    | (exact absurd ⟨rfl, rfl⟩ (h4 _ _ _ _ _ _))
    | simp_all

end Go.Ab
