/- The evaluator's operations on numbers, bools, strings and structs are the model's. -/
import Derived.Test.YtecfekfenhacpaaGreatAbMem
import Derived.Laws.StructEq
namespace Go.Ab
open Go
set_option linter.unusedVariables false
set_option linter.unusedSimpArgs false
variable {R : Type}

/-! ### operands -/

theorem D.ofCell_sound {I : Im} {v : Value} {x : D} (h : D.ofCell v = some x) : RD I x v ∧ x.isAgg = false := by
  unfold D.ofCell at h
  split at h <;> (try (simp at h)) <;> subst h <;> refine ⟨?_, rfl⟩
  · exact .bool _
  · exact .int _ _
  · rename_i s
    have : s = ⟨s.data.toList.toArray⟩ := by cases s; simp
    rw [this]
    simpa using RD.str (I := I) s.data.toList
  · exact .nilp
  · exact .nils
  · exact .nilm
  · exact .nilf
  · exact .nili

theorem D.ofCells_sound {I : Im} : ∀ {l : List Value} {xs : List D}, D.ofCells l = some xs →
    xs.length = l.length ∧ ∀ (j : Nat) (x : D), xs[j]? = some x → x.isAgg = false ∧ ∃ y, l[j]? = some y ∧ RD I x y
  | [], xs, h => by simp [D.ofCells] at h; subst h; simp
  | v :: r, xs, h => by
    simp only [D.ofCells] at h
    split at h
    · rename_i x hx
      split at h
      · rename_i ys hys
        simp at h; subst h
        obtain ⟨h1, h2⟩ := D.ofCells_sound hys
        refine ⟨by simp [h1], fun j z e => ?_⟩
        cases j with
        | zero => simp at e; subst e; exact ⟨(D.ofCell_sound (I := I) hx).2, v, by simp, (D.ofCell_sound hx).1⟩
        | succ j => simp at e; simpa using h2 j z e
      · simp at h
    · simp at h

theorem D.ofValue_sound {I : Im} {v : Value} {x : D} (h : D.ofValue v = some x) : RD I x v := by
  unfold D.ofValue at h
  split at h
  · rename_i cs
    split at h
    · rename_i l hl
      simp at h; subst h
      obtain ⟨h1, h2⟩ := D.ofCells_sound (I := I) hl
      refine .agg l cs (by simpa using h1) (fun j x e => (h2 j x e).1) fun j x y e ey => ?_
      obtain ⟨_, y', e', hr⟩ := h2 j x e
      simp at e'
      rw [e'] at ey; simp at ey; subst ey; exact hr
    · simp at h
  · exact (D.ofCell_sound h).1

theorem evalC_sound {fr : Frame} {x : Operand} {k : V → Option R} {r : R} (h : evalC fr x k = some r) :
    ∃ v, k v = some r ∧ ∀ ρ I (a : Act), FrameR ρ I fr a.tmps → RV ρ I v (a.eval x) := by
  unfold evalC at h
  split at h
  · rename_i t
    split at h
    · rename_i v hv
      refine ⟨v, h, fun ρ I a hf => ?_⟩
      obtain ⟨y, hy, hr⟩ := hf t v hv
      simp [Act.eval, hy]; exact hr
    · simp at h
  · rename_i c
    split at h
    · rename_i x hx
      exact ⟨.d x, h, fun ρ I a _ => .d _ _ (D.ofValue_sound hx)⟩
    · simp at h
  · rename_i f
    exact ⟨_, h, fun ρ I a _ => .d _ _ (.fn f)⟩
  · simp at h

/-- values of a list, one by one. -/
def RVs (ρ : Nm) (I : Im) (vs : List V) (cs : List Value) : Prop :=
  vs.length = cs.length ∧ ∀ (j : Nat) (x : V) (y : Value), vs[j]? = some x → cs[j]? = some y → RV ρ I x y

theorem RVs.nil {ρ : Nm} {I : Im} : RVs ρ I [] [] := ⟨rfl, by simp⟩
theorem RVs.cons {ρ : Nm} {I : Im} {v : V} {c : Value} {vs : List V} {cs : List Value} (h : RV ρ I v c) (hs : RVs ρ I vs cs) : RVs ρ I (v :: vs) (c :: cs) := by
  refine ⟨by simp [hs.1], fun j x y e ey => ?_⟩
  cases j with
  | zero => simp at e ey; subst e; subst ey; exact h
  | succ j => simp at e ey; exact hs.2 j x y e ey

theorem RVs.cons_inv {ρ : Nm} {I : Im} {v : V} {vs : List V} {cs : List Value} (h : RVs ρ I (v :: vs) cs) : ∃ c cs', cs = c :: cs' ∧ RV ρ I v c ∧ RVs ρ I vs cs' := by
  cases cs with
  | nil => simp [RVs] at h
  | cons c cs =>
    refine ⟨c, cs, rfl, h.2 0 v c rfl rfl, by simpa using h.1, fun j x y e ey => h.2 (j + 1) x y (by simpa using e) (by simpa using ey)⟩

theorem RVs.nil_inv {ρ : Nm} {I : Im} {cs : List Value} (h : RVs ρ I [] cs) : cs = [] := by
  cases cs with
  | nil => rfl
  | cons c cs => simp [RVs] at h

theorem RVs.append {ρ : Nm} {I : Im} : ∀ {vs us : List V} {cs ds : List Value}, RVs ρ I vs cs → RVs ρ I us ds → RVs ρ I (vs ++ us) (cs ++ ds)
  | [], us, cs, ds, h, h' => by rw [h.nil_inv]; exact h'
  | v :: vs, us, cs, ds, h, h' => by
    obtain ⟨c, cs', rfl, h1, h2⟩ := h.cons_inv
    exact .cons h1 (RVs.append h2 h')

theorem RVs.mono {ρ ρ' : Nm} {I I' : Im} (hρ : ExtN ρ ρ') (hI : ExtI I I') {vs : List V} {cs : List Value} (h : RVs ρ I vs cs) : RVs ρ' I' vs cs :=
  ⟨h.1, fun j x y e ey => (h.2 j x y e ey).mono hρ hI⟩

theorem evalsC_sound {fr : Frame} : ∀ {l : List Operand} {k : List V → Option R} {r : R}, evalsC fr l k = some r →
    ∃ vs, k vs = some r ∧ ∀ ρ I (a : Act), FrameR ρ I fr a.tmps → RVs ρ I vs (l.map a.eval)
  | [], k, r, h => ⟨[], h, fun ρ I a hf => .nil⟩
  | x :: l, k, r, h => by
    simp only [evalsC] at h
    obtain ⟨v, h1, hv⟩ := evalC_sound h
    obtain ⟨vs, h2, hvs⟩ := evalsC_sound h1
    exact ⟨v :: vs, h2, fun ρ I a hf => .cons (hv ρ I a hf) (hvs ρ I a hf)⟩

theorem partsC_sound {fr : Frame} : ∀ {l : List (Nat × Operand)} {k : List (Nat × V) → Option R} {r : R}, partsC fr l k = some r →
    ∃ vs, k vs = some r ∧ vs.map (·.1) = l.map (·.1) ∧ ∀ ρ I (a : Act), FrameR ρ I fr a.tmps → RVs ρ I (vs.map (·.2)) (l.map fun x => a.eval x.2)
  | [], k, r, h => ⟨[], h, rfl, fun ρ I a hf => .nil⟩
  | (i, x) :: l, k, r, h => by
    simp only [partsC] at h
    obtain ⟨v, h1, hv⟩ := evalC_sound h
    obtain ⟨vs, h2, hn, hvs⟩ := partsC_sound h1
    exact ⟨(i, v) :: vs, h2, by simp [hn], fun ρ I a hf => .cons (hv ρ I a hf) (hvs ρ I a hf)⟩

theorem optC_sound {fr : Frame} {x : Option Operand} {k : Option V → Option R} {r : R} (h : optC fr x k = some r) :
    ∃ v, k v = some r ∧ ∀ ρ I (a : Act), FrameR ρ I fr a.tmps → (match v, x.map a.eval with | none, none => True | some v, some c => RV ρ I v c | _, _ => False) := by
  unfold optC at h
  split at h
  · exact ⟨none, h, fun ρ I a _ => trivial⟩
  · obtain ⟨v, h1, hv⟩ := evalC_sound h
    exact ⟨some v, h1, fun ρ I a hf => hv ρ I a hf⟩

/-! ### numbers -/

theorem bitsOp_run (op : BinOp) (ho : op = .and ∨ op = .or ∨ op = .xor ∨ op = .andNot) (k : IntKind) (x y : Int) (P : Program) (w : World) :
    (Op.intBits op k x y).run P w = .ok (.int k (bitsOp op k x y)) w := by
  rcases ho with rfl | rfl | rfl | rfl <;> rfl

theorem intOp_key {op : BinOp} {ik jk : IntKind} {a b : Int} {k : V → Option R} {r : R} (h : intOp op ik a b k = some r) (hk : isShift op = true ∨ ik = jk) :
    ∃ x, k (.d x) = some r ∧ ∀ (I : Im) (P : Program) (t : TypeId) (w : World), ∃ c, (binOp op t (.int ik a) (.int jk b)).run P w = .ok c w ∧ RD I x c := by
  cases op <;> simp only [intOp] at h
  case shl =>
    split at h
    · simp at h
    · rename_i hb
      refine ⟨_, h, fun I P t w => ⟨_, ?_, .int _ _⟩⟩
      simp [binOp, Op.shift, hb]
  case shr =>
    split at h
    · simp at h
    · rename_i hb
      refine ⟨_, h, fun I P t w => ⟨_, ?_, .int _ _⟩⟩
      simp [binOp, Op.shift, hb]
  all_goals
    have hk : ik = jk := hk.resolve_left (by simp [isShift])
    subst hk
  case quo =>
    split at h
    · simp at h
    · rename_i hb
      refine ⟨_, h, fun I P t w => ⟨_, ?_, .int _ _⟩⟩
      simp [binOp, Op.intDiv, hb]
  case rem =>
    split at h
    · simp at h
    · rename_i hb
      refine ⟨_, h, fun I P t w => ⟨_, ?_, .int _ _⟩⟩
      simp [binOp, Op.intDiv, hb]
  case and => exact ⟨_, h, fun I P t w => ⟨_, by simp only [binOp]; simp only [ne_eq, not_true, if_false]; exact bitsOp_run _ (by simp) _ _ _ P w, .int _ _⟩⟩
  case or => exact ⟨_, h, fun I P t w => ⟨_, by simp only [binOp]; simp only [ne_eq, not_true, if_false]; exact bitsOp_run _ (by simp) _ _ _ P w, .int _ _⟩⟩
  case xor => exact ⟨_, h, fun I P t w => ⟨_, by simp only [binOp]; simp only [ne_eq, not_true, if_false]; exact bitsOp_run _ (by simp) _ _ _ P w, .int _ _⟩⟩
  case andNot => exact ⟨_, h, fun I P t w => ⟨_, by simp only [binOp]; simp only [ne_eq, not_true, if_false]; exact bitsOp_run _ (by simp) _ _ _ P w, .int _ _⟩⟩
  all_goals
    first
    | exact ⟨_, h, fun I P t w => ⟨_, by simp only [binOp]; simp only [ne_eq, not_true, if_false]; rfl, .int _ _⟩⟩
    | exact ⟨_, h, fun I P t w => ⟨_, by simp only [binOp]; simp only [ne_eq, not_true, if_false]; rfl, .bool _⟩⟩

theorem intOp_sound {op : BinOp} {ik jk : IntKind} {a b : Int} {k : V → Option R} {r : R}
    (h : (if ik = jk then intOp op ik a b k else bif isShift op then intOp op ik a b k else none) = some r) :
    ∃ x, k (.d x) = some r ∧ ∀ (I : Im) (P : Program) (t : TypeId) (w : World), ∃ c, (binOp op t (.int ik a) (.int jk b)).run P w = .ok c w ∧ RD I x c := by
  by_cases hk : ik = jk
  · rw [if_pos hk] at h
    exact intOp_key h (.inr hk)
  · rw [if_neg hk] at h
    cases hs : isShift op with
    | false => simp [hs] at h
    | true => simp [hs] at h; exact intOp_key h (.inl hs)

theorem toList_mk (l : List UInt8) : (⟨l.toArray⟩ : ByteArray).toList = l := by rw [ByteArray.toList_eq]

theorem strOp_sound {op : BinOp} {a b : List UInt8} {k : V → Option R} {r : R} (h : strOp op a b k = some r) :
    ∃ x, k (.d x) = some r ∧ ∀ (I : Im) (P : Program) (t : TypeId) (w : World), ∃ c, (binOp op t (.string ⟨a.toArray⟩) (.string ⟨b.toArray⟩)).run P w = .ok c w ∧ RD I x c := by
  cases op <;> simp only [strOp] at h <;> try (simp at h; done)
  case add =>
    split at h
    · rename_i hl
      refine ⟨_, h, fun I P t w => ⟨.string (⟨a.toArray⟩ ++ ⟨b.toArray⟩), ?_, ?_⟩⟩
      · have : ¬ ((((⟨a.toArray⟩ : ByteArray).size + (⟨b.toArray⟩ : ByteArray).size : Nat) : Int) > IntKind.i64.max) := by
          have h1 : (⟨a.toArray⟩ : ByteArray).size = a.length := by simp [ByteArray.size]
          have h2 : (⟨b.toArray⟩ : ByteArray).size = b.length := by simp [ByteArray.size]
          rw [h1, h2]; unfold strRoom at hl
          simp [IntKind.max, IntKind.signed, IntKind.bits]; omega
        simp only [binOp, Op.stringOp]
        rw [if_neg this]; rfl
      · have : (⟨a.toArray⟩ ++ ⟨b.toArray⟩ : ByteArray) = ⟨(a ++ b).toArray⟩ := by
          apply ByteArray.ext; simp [ByteArray.data_append]
        rw [this]; exact .str _
    · simp at h
  all_goals
    refine ⟨_, h, fun I P t w => ⟨_, by simp only [binOp, Op.stringOp]; rfl, ?_⟩⟩
    simp only [toList_mk]
    exact .bool _

theorem unC_sound {op : UnOp} {x : V} {k : V → Option R} {r : R} (h : unC op x k = some r) :
    ∃ v, k v = some r ∧ ∀ ρ I (c : Value) (P : Program) (w : World), RV ρ I x c → ∃ c', (Op.unary op c).run P w = .ok c' w ∧ RV ρ I v c' := by
  unfold unC at h
  split at h
  · refine ⟨_, h, fun ρ I c P w hx => ?_⟩
    cases hx with | d _ _ hx => cases hx; exact ⟨_, rfl, .d _ _ (.int _ _)⟩
  · refine ⟨_, h, fun ρ I c P w hx => ?_⟩
    cases hx with | d _ _ hx => cases hx; exact ⟨_, rfl, .d _ _ (.int _ _)⟩
  · refine ⟨_, h, fun ρ I c P w hx => ?_⟩
    cases hx with | d _ _ hx => cases hx; exact ⟨_, rfl, .d _ _ (.bool _)⟩
  · simp at h

end Go.Ab
