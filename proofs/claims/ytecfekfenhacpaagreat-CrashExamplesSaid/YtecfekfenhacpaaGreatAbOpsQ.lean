/- Every operation that calls no function. -/
import Derived.Test.YtecfekfenhacpaaGreatAbOpsP
namespace Go.Ab
open Go
set_option linter.unusedVariables false
set_option linter.unusedSimpArgs false
variable {R : Type} {P : Program}

/-- what an operation does: one value and one memory, whatever the world. -/
def OpF (P : Program) (fr : Frame) (m : Mem) (o : Oper) (v : V) (m' : Mem) : Prop := OpS P fr m o fun u n => u = v ∧ n = m'

theorem OpF.imp {fr : Frame} {m m' : Mem} {o : Oper} {v : V} {Q : V → Mem → Prop} (h : OpF P fr m o v m') (hq : Q v m') : OpS P fr m o Q :=
  fun ρ I a w hm hn hf => let ⟨x, w', u, n, ρ', I', h1, ⟨h2, h3⟩, h4, h5⟩ := h ρ I a w hm hn hf; ⟨x, w', u, n, ρ', I', h1, by rw [h2, h3]; exact hq, h4, h5⟩

theorem OpF.pure {fr : Frame} {m : Mem} {o : Oper} {v : V}
    (h : ∀ ρ I (a : Act) (w : World), MemR ρ I m w → FrameR ρ I fr a.tmps → ∃ c, (execOp a.eval o).run P w = .ok (.value c) w ∧ RV ρ I v c) : OpF P fr m o v m :=
  OpS.pure ⟨rfl, rfl⟩ h

theorem OpF.mem {fr : Frame} {m m' : Mem} {o : Oper} {v : V}
    (h : ∀ ρ I (a : Act) (w : World), MemR ρ I m w → ρ m.next = none → FrameR ρ I fr a.tmps →
      ∃ c w' ρ', (execOp a.eval o).run P w = .ok (.value c) w' ∧ RV ρ' I v c ∧ StepR ρ I m w ρ' I m' w') : OpF P fr m o v m' :=
  fun ρ I a w hm hn hf => let ⟨c, w', ρ', h1, h2, h3⟩ := h ρ I a w hm hn hf; ⟨.value c, w', v, m', ρ', I, h1, ⟨rfl, rfl⟩, h2, h3⟩

theorem OpF.unit {fr : Frame} {m m' : Mem} {o : Oper}
    (h : ∀ ρ I (a : Act) (w : World), MemR ρ I m w → FrameR ρ I fr a.tmps →
      ∃ w', (execOp a.eval o).run P w = .ok .skip w' ∧ StepR ρ I m w ρ I m' w') : OpF P fr m o .und m' :=
  fun ρ I a w hm hn hf => let ⟨w', h1, h3⟩ := h ρ I a w hm hf; ⟨.skip, w', .und, m', ρ, I, h1, ⟨rfl, rfl⟩, rfl, h3⟩

theorem RV.d_inv {ρ : Nm} {I : Im} {x : D} {c : Value} (h : RV ρ I (.d x) c) : RD I x c := by cases h; assumption
theorem RV.bool_inv {ρ : Nm} {I : Im} {b : Bool} {c : Value} (h : RV ρ I (.d (.bool b)) c) : c = .bool b := by cases h.d_inv; rfl
theorem RV.int_inv {ρ : Nm} {I : Im} {k : IntKind} {b : Int} {c : Value} (h : RV ρ I (.d (.int k b)) c) : c = .int k b := by cases h.d_inv; rfl
theorem RV.str_inv {ρ : Nm} {I : Im} {b : List UInt8} {c : Value} (h : RV ρ I (.d (.str b)) c) : c = .string ⟨b.toArray⟩ := by cases h.d_inv; rfl

theorem optC_sound' {fr : Frame} {x : Option Operand} {k : Option V → Option R} {r : R} (h : optC fr x k = some r) :
    ∃ v, k v = some r ∧ ∀ ρ I (a : Act), FrameR ρ I fr a.tmps → optR ρ I v (x.map a.eval) := by
  obtain ⟨v, h1, h2⟩ := optC_sound h
  refine ⟨v, h1, fun ρ I a hf => ?_⟩
  have := h2 ρ I a hf
  cases v <;> cases x <;> first | exact this | (simp [optR] at this ⊢)

/-- operations that choose among a map's entries. -/
def isNext : Op → Bool
  | .next _ _ => true
  | _ => false

variable {J : Option R → Option R → Option R} {fr : Frame} {m : Mem} {o : Oper} {k : V → Mem → Option R} {r : R}

theorem next_sound (hJ : Joins J) (hn : isNext o.op = true) (h : opC P J fr m o.op k = some r) : OpS P fr m o fun v m' => k v m' = some r := by
  cases ho : o.op <;> simp [ho, isNext] at hn
  rename_i i s
  rw [ho] at h
  cases s with
  | true => simp [opC, opPick, opAlloc, opBox, opBuild, opBuildSlice, opLoad, opStore, opNilCheck, opBinOp, opUnOp, opConvert, opMakeInterface, opMakeFunc, opMakeSlice, opSlice, opFieldAddr, opField, opIndexAddr, opIndex, opTypeAssert, opExtract, opMakeMap, opLookup, opMapUpdate, opInsert, opRange, opNext, opEntry, bDelete, bCopy, bClear, bLen, bAppend, opBuiltin] at h
  | false =>
    simp only [opC, opPick, opAlloc, opBox, opBuild, opBuildSlice, opLoad, opStore, opNilCheck, opBinOp, opUnOp, opConvert, opMakeInterface, opMakeFunc, opMakeSlice, opSlice, opFieldAddr, opField, opIndexAddr, opIndex, opTypeAssert, opExtract, opMakeMap, opLookup, opMapUpdate, opInsert, opRange, opNext, opEntry, bDelete, bCopy, bClear, bLen, bAppend, opBuiltin] at h
    obtain ⟨v, h, hv⟩ := evalC_sound h
    intro ρ I a w hm _ hf
    obtain ⟨c, w', u, m', h1, h2, h3, h4⟩ := nextC_sound (P := P) hJ h ρ I _ o.type w hm (hv ρ I a hf)
    exact ⟨.value c, w', u, m', ρ, I, by simp [execOp, ho, h1], h2, h3, h4⟩

theorem makeFunc_fin {f : FuncId} {us vs : List V} (h : k (match us, vs with | [], [] => .d (.fn f) | us, vs => .fnc f us vs) m = some r) :
    ∃ v, k v m = some r ∧ ∀ ρ I (as bs : Array Value), RVs ρ I us as.toList → RVs ρ I vs bs.toList → RV ρ I v (.func (.func f) as bs) := by
  split at h
  · refine ⟨_, h, fun ρ I as bs h1 h2 => ?_⟩
    have e1 : as = #[] := by simpa using h1.nil_inv
    have e2 : bs = #[] := by simpa using h2.nil_inv
    subst e1; subst e2
    exact .d _ _ (.fn f)
  · refine ⟨_, h, fun ρ I as bs h1 h2 => ?_⟩
    refine .fnc f _ _ as bs (by simpa using h1.1) (by simpa using h2.1) (fun j x y e ey => h1.2 j x y e (by simpa using ey)) (fun j x y e ey => h2.2 j x y e (by simpa using ey))

theorem opC_sound (hn : isNext o.op = false) (hc : (match o.op with | .call _ => true | _ => false) = false) (h : opC P J fr m o.op k = some r) : ∃ v m', k v m' = some r ∧ OpF P fr m o v m' := by
  cases ho : o.op <;> simp [ho, isNext] at hn hc <;> rw [ho] at h <;> try (simp [opC, opPick, opAlloc, opBox, opBuild, opBuildSlice, opLoad, opStore, opNilCheck, opBinOp, opUnOp, opConvert, opMakeInterface, opMakeFunc, opMakeSlice, opSlice, opFieldAddr, opField, opIndexAddr, opIndex, opTypeAssert, opExtract, opMakeMap, opLookup, opMapUpdate, opInsert, opRange, opNext, opEntry, bDelete, bCopy, bClear, bLen, bAppend, opBuiltin] at h; done)
  case move x =>
    simp only [opC, opPick, opAlloc, opBox, opBuild, opBuildSlice, opLoad, opStore, opNilCheck, opBinOp, opUnOp, opConvert, opMakeInterface, opMakeFunc, opMakeSlice, opSlice, opFieldAddr, opField, opIndexAddr, opIndex, opTypeAssert, opExtract, opMakeMap, opLookup, opMapUpdate, opInsert, opRange, opNext, opEntry, bDelete, bCopy, bClear, bLen, bAppend, opBuiltin] at h
    obtain ⟨v, h, hv⟩ := evalC_sound h
    exact ⟨v, m, h, .pure fun ρ I a w hm hf => ⟨_, by simp [execOp, ho], hv ρ I a hf⟩⟩
  case assign x =>
    simp only [opC, opPick, opAlloc, opBox, opBuild, opBuildSlice, opLoad, opStore, opNilCheck, opBinOp, opUnOp, opConvert, opMakeInterface, opMakeFunc, opMakeSlice, opSlice, opFieldAddr, opField, opIndexAddr, opIndex, opTypeAssert, opExtract, opMakeMap, opLookup, opMapUpdate, opInsert, opRange, opNext, opEntry, bDelete, bCopy, bClear, bLen, bAppend, opBuiltin] at h
    obtain ⟨v, h, hv⟩ := evalC_sound h
    exact ⟨v, m, h, .pure fun ρ I a w hm hf => ⟨_, by simp [execOp, ho], hv ρ I a hf⟩⟩
  case pick c a b =>
    simp only [opC, opPick, opAlloc, opBox, opBuild, opBuildSlice, opLoad, opStore, opNilCheck, opBinOp, opUnOp, opConvert, opMakeInterface, opMakeFunc, opMakeSlice, opSlice, opFieldAddr, opField, opIndexAddr, opIndex, opTypeAssert, opExtract, opMakeMap, opLookup, opMapUpdate, opInsert, opRange, opNext, opEntry, bDelete, bCopy, bClear, bLen, bAppend, opBuiltin] at h
    obtain ⟨v, h, hv⟩ := evalC_sound h
    split at h
    · rename_i t
      cases t with
      | true =>
        obtain ⟨u, h, hu⟩ := evalC_sound h
        exact ⟨u, m, h, .pure fun ρ I a w hm hf => ⟨_, by simp [execOp, ho, (hv ρ I a hf).bool_inv, asBool], hu ρ I a hf⟩⟩
      | false =>
        obtain ⟨u, h, hu⟩ := evalC_sound h
        exact ⟨u, m, h, .pure fun ρ I a w hm hf => ⟨_, by simp [execOp, ho, (hv ρ I a hf).bool_inv, asBool], hu ρ I a hf⟩⟩
    · simp at h
  case alloc t =>
    simp only [opC, opPick, opAlloc, opBox, opBuild, opBuildSlice, opLoad, opStore, opNilCheck, opBinOp, opUnOp, opConvert, opMakeInterface, opMakeFunc, opMakeSlice, opSlice, opFieldAddr, opField, opIndexAddr, opIndex, opTypeAssert, opExtract, opMakeMap, opLookup, opMapUpdate, opInsert, opRange, opNext, opEntry, bDelete, bCopy, bClear, bLen, bAppend, opBuiltin] at h
    split at h
    · rename_i tk z htk hz
      cases hf : z.fits tk with
      | false => simp [hf] at h
      | true =>
        simp [hf] at h
        refine ⟨_, _, h, .mem fun ρ I a w hm hn hfr => ?_⟩
        obtain ⟨c, hrun, hr⟩ := zeroD_sound hz
        obtain ⟨ρ', hst, hv⟩ := step_var (v := .d z) t hm hn (show (V.d z).fits tk = true from hf) (.d _ _ (hr I))
        exact ⟨_, _, ρ', by simp [execOp, ho, Instr.alloc, hrun, run_newVar], hv, hst⟩
    · simp at h
  case box t x =>
    simp only [opC, opPick, opAlloc, opBox, opBuild, opBuildSlice, opLoad, opStore, opNilCheck, opBinOp, opUnOp, opConvert, opMakeInterface, opMakeFunc, opMakeSlice, opSlice, opFieldAddr, opField, opIndexAddr, opIndex, opTypeAssert, opExtract, opMakeMap, opLookup, opMapUpdate, opInsert, opRange, opNext, opEntry, bDelete, bCopy, bClear, bLen, bAppend, opBuiltin] at h
    obtain ⟨v, h, hv⟩ := evalC_sound h
    split at h
    · rename_i tk htk
      cases hf : v.fits tk with
      | false => simp [hf] at h
      | true =>
        simp [hf] at h
        refine ⟨_, _, h, .mem fun ρ I a w hm hn hfr => ?_⟩
        obtain ⟨ρ', hst, hp⟩ := step_var t hm hn hf (hv ρ I a hfr)
        exact ⟨_, _, ρ', by simp [execOp, ho, Instr.box, run_newVar], hp, hst⟩
    · simp at h
  case build t ps =>
    simp only [opC, opPick, opAlloc, opBox, opBuild, opBuildSlice, opLoad, opStore, opNilCheck, opBinOp, opUnOp, opConvert, opMakeInterface, opMakeFunc, opMakeSlice, opSlice, opFieldAddr, opField, opIndexAddr, opIndex, opTypeAssert, opExtract, opMakeMap, opLookup, opMapUpdate, opInsert, opRange, opNext, opEntry, bDelete, bCopy, bClear, bLen, bAppend, opBuiltin] at h
    obtain ⟨vs, h, hn1, hvs⟩ := partsC_sound h
    obtain ⟨v, h, hv⟩ := buildC_sound h
    refine ⟨v, m, h, .pure fun ρ I a w hm hf => ?_⟩
    obtain ⟨c, h1, h2⟩ := hv ρ I (ps.map fun (i, x) => (i, a.eval x)) w (by simp [hn1, Function.comp_def]) (by simpa [Function.comp_def] using hvs ρ I a hf)
    exact ⟨c, by simp [execOp, ho, h1], h2⟩
  case buildSlice t len ps =>
    simp only [opC, opPick, opAlloc, opBox, opBuild, opBuildSlice, opLoad, opStore, opNilCheck, opBinOp, opUnOp, opConvert, opMakeInterface, opMakeFunc, opMakeSlice, opSlice, opFieldAddr, opField, opIndexAddr, opIndex, opTypeAssert, opExtract, opMakeMap, opLookup, opMapUpdate, opInsert, opRange, opNext, opEntry, bDelete, bCopy, bClear, bLen, bAppend, opBuiltin] at h
    obtain ⟨vs, h, hn1, hvs⟩ := partsC_sound h
    obtain ⟨v, m', h, hv⟩ := buildSliceC_sound h
    refine ⟨v, m', h, .mem fun ρ I a w hm hn hf => ?_⟩
    obtain ⟨c, w', ρ', h1, h2, h3⟩ := hv ρ I (ps.map fun (i, x) => (i, a.eval x)) w hm hn (by simp [hn1, Function.comp_def]) (by simpa [Function.comp_def] using hvs ρ I a hf)
    exact ⟨c, w', ρ', by simp [execOp, ho, h1], h2, h3⟩
  case load t x =>
    simp only [opC, opPick, opAlloc, opBox, opBuild, opBuildSlice, opLoad, opStore, opNilCheck, opBinOp, opUnOp, opConvert, opMakeInterface, opMakeFunc, opMakeSlice, opSlice, opFieldAddr, opField, opIndexAddr, opIndex, opTypeAssert, opExtract, opMakeMap, opLookup, opMapUpdate, opInsert, opRange, opNext, opEntry, bDelete, bCopy, bClear, bLen, bAppend, opBuiltin] at h
    obtain ⟨v, h, hv⟩ := evalC_sound h
    obtain ⟨u, h, hu⟩ := loadC_sound h
    refine ⟨u, m, h, .pure fun ρ I a w hm hf => ?_⟩
    obtain ⟨_, c, h1, h2⟩ := hu ρ I _ w hm (hv ρ I a hf)
    exact ⟨c, by simp [execOp, ho, h1], h2⟩
  case store t x y =>
    simp only [opC, opPick, opAlloc, opBox, opBuild, opBuildSlice, opLoad, opStore, opNilCheck, opBinOp, opUnOp, opConvert, opMakeInterface, opMakeFunc, opMakeSlice, opSlice, opFieldAddr, opField, opIndexAddr, opIndex, opTypeAssert, opExtract, opMakeMap, opLookup, opMapUpdate, opInsert, opRange, opNext, opEntry, bDelete, bCopy, bClear, bLen, bAppend, opBuiltin] at h
    obtain ⟨v, h, hv⟩ := evalC_sound h
    obtain ⟨u, h, hu⟩ := evalC_sound h
    obtain ⟨m', h, hs⟩ := storeC_sound h
    refine ⟨_, m', h, .unit fun ρ I a w hm hf => ?_⟩
    obtain ⟨w', h1, h2⟩ := hs ρ I _ _ w hm (hv ρ I a hf) (hu ρ I a hf)
    exact ⟨w', by simp [execOp, ho, h1], h2⟩
  case nilCheck x =>
    simp only [opC, opPick, opAlloc, opBox, opBuild, opBuildSlice, opLoad, opStore, opNilCheck, opBinOp, opUnOp, opConvert, opMakeInterface, opMakeFunc, opMakeSlice, opSlice, opFieldAddr, opField, opIndexAddr, opIndex, opTypeAssert, opExtract, opMakeMap, opLookup, opMapUpdate, opInsert, opRange, opNext, opEntry, bDelete, bCopy, bClear, bLen, bAppend, opBuiltin] at h
    obtain ⟨v, h, hv⟩ := evalC_sound h
    split at h
    · refine ⟨_, m, h, .pure fun ρ I a w hm hf => ⟨a.eval x, ?_, hv ρ I a hf⟩⟩
      have := hv ρ I a hf
      simp only [execOp, ho]
      generalize a.eval x = c at this
      cases this; rfl
    · refine ⟨_, m, h, .pure fun ρ I a w hm hf => ⟨a.eval x, ?_, hv ρ I a hf⟩⟩
      have := hv ρ I a hf
      simp only [execOp, ho]
      generalize a.eval x = c at this
      cases this; rfl
    · refine ⟨_, m, h, .pure fun ρ I a w hm hf => ⟨a.eval x, ?_, hv ρ I a hf⟩⟩
      have := hv ρ I a hf
      simp only [execOp, ho]
      generalize a.eval x = c at this
      cases this; rfl
    · refine ⟨_, m, h, .pure fun ρ I a w hm hf => ⟨a.eval x, ?_, hv ρ I a hf⟩⟩
      have := (hv ρ I a hf).d_inv
      simp only [execOp, ho]
      generalize a.eval x = c at this
      cases this; rfl
    · simp at h
  case binOp op t x y t' =>
    simp only [opC, opPick, opAlloc, opBox, opBuild, opBuildSlice, opLoad, opStore, opNilCheck, opBinOp, opUnOp, opConvert, opMakeInterface, opMakeFunc, opMakeSlice, opSlice, opFieldAddr, opField, opIndexAddr, opIndex, opTypeAssert, opExtract, opMakeMap, opLookup, opMapUpdate, opInsert, opRange, opNext, opEntry, bDelete, bCopy, bClear, bLen, bAppend, opBuiltin] at h
    obtain ⟨v, h, hv⟩ := evalC_sound h
    obtain ⟨u, h, hu⟩ := evalC_sound h
    obtain ⟨z, h, hz⟩ := binC_sound h
    refine ⟨z, m, h, .pure fun ρ I a w hm hf => ?_⟩
    obtain ⟨c, h1, h2⟩ := hz ρ I _ _ w (hv ρ I a hf) (hu ρ I a hf)
    refine ⟨c, ?_, h2⟩
    simp only [execOp, ho, Sem.run_bind] at h1 ⊢
    cases hg : (eqGuard op t x y (a.eval x) (a.eval y)).run P w with
    | ok u w1 => rw [hg] at h1; simp only [Result.andThen_ok] at h1 ⊢; rw [h1]; rfl
    | halt x w1 => rw [hg] at h1; simp [Result.andThen] at h1
  case unOp op t x =>
    simp only [opC, opPick, opAlloc, opBox, opBuild, opBuildSlice, opLoad, opStore, opNilCheck, opBinOp, opUnOp, opConvert, opMakeInterface, opMakeFunc, opMakeSlice, opSlice, opFieldAddr, opField, opIndexAddr, opIndex, opTypeAssert, opExtract, opMakeMap, opLookup, opMapUpdate, opInsert, opRange, opNext, opEntry, bDelete, bCopy, bClear, bLen, bAppend, opBuiltin] at h
    obtain ⟨v, h, hv⟩ := evalC_sound h
    obtain ⟨u, h, hu⟩ := unC_sound h
    refine ⟨u, m, h, .pure fun ρ I a w hm hf => ?_⟩
    obtain ⟨c, h1, h2⟩ := hu ρ I _ P w (hv ρ I a hf)
    exact ⟨c, by simp [execOp, ho, h1], h2⟩
  case convert src dst x =>
    simp only [opC, opPick, opAlloc, opBox, opBuild, opBuildSlice, opLoad, opStore, opNilCheck, opBinOp, opUnOp, opConvert, opMakeInterface, opMakeFunc, opMakeSlice, opSlice, opFieldAddr, opField, opIndexAddr, opIndex, opTypeAssert, opExtract, opMakeMap, opLookup, opMapUpdate, opInsert, opRange, opNext, opEntry, bDelete, bCopy, bClear, bLen, bAppend, opBuiltin] at h
    obtain ⟨v, h, hv⟩ := evalC_sound h
    obtain ⟨u, m', h, hu⟩ := convC_sound h
    refine ⟨u, m', h, .mem fun ρ I a w hm hn hf => ?_⟩
    obtain ⟨c, w', ρ', h1, h2, h3⟩ := hu ρ I _ w hm hn (hv ρ I a hf)
    exact ⟨c, w', ρ', by simp [execOp, ho, h1], h2, h3⟩
  case makeInterface t x =>
    simp only [opC, opPick, opAlloc, opBox, opBuild, opBuildSlice, opLoad, opStore, opNilCheck, opBinOp, opUnOp, opConvert, opMakeInterface, opMakeFunc, opMakeSlice, opSlice, opFieldAddr, opField, opIndexAddr, opIndex, opTypeAssert, opExtract, opMakeMap, opLookup, opMapUpdate, opInsert, opRange, opNext, opEntry, bDelete, bCopy, bClear, bLen, bAppend, opBuiltin] at h
    obtain ⟨v, h, hv⟩ := evalC_sound h
    split at h
    · rename_i td hu
      cases hi : isIfaceD td with
      | true => simp [hi] at h
      | false =>
        rw [hi, cond_false] at h
        have hrun : ∀ (c : Value) (w : World), (Instr.makeInterface t c).run P w = .ok (.iface t c) w := fun c w => by
          simp only [Instr.makeInterface, Sem.run_bind, run_underlying hu, Result.andThen_ok]
          cases td <;> first | rfl | (simp [isIfaceD] at hi)
        split at h
        · refine ⟨_, m, h, .pure fun ρ I a w hm hf => ⟨_, by simp [execOp, ho, hrun], .d _ _ (.iface t _ _ (hv ρ I a hf).d_inv)⟩⟩
        · refine ⟨_, m, h, .pure fun ρ I a w hm hf => ⟨_, by simp [execOp, ho, hrun], .iface t _ _ (hv ρ I a hf)⟩⟩
    · simp at h
  case makeFunc fn first captured =>
    cases fn with
    | func f =>
      simp only [opC, opPick, opAlloc, opBox, opBuild, opBuildSlice, opLoad, opStore, opNilCheck, opBinOp, opUnOp, opConvert, opMakeInterface, opMakeFunc, opMakeSlice, opSlice, opFieldAddr, opField, opIndexAddr, opIndex, opTypeAssert, opExtract, opMakeMap, opLookup, opMapUpdate, opInsert, opRange, opNext, opEntry, bDelete, bCopy, bClear, bLen, bAppend, opBuiltin] at h
      obtain ⟨us, h, hus⟩ := evalsC_sound h
      obtain ⟨vs, h, hvs⟩ := evalsC_sound h
      obtain ⟨v, h, hv⟩ := makeFunc_fin (us := us) (vs := vs) (k := k) (m := m) (f := f) (r := r) (by cases us <;> cases vs <;> exact h)
      refine ⟨v, m, h, .pure fun ρ I a w hm hf => ⟨_, by simp [execOp, ho, Instr.makeFunc], hv ρ I (first.map a.eval) (captured.map a.eval) ?_ ?_⟩⟩
      · simpa using hus ρ I a hf
      · simpa using hvs ρ I a hf
    | _ => simp [opC, opPick, opAlloc, opBox, opBuild, opBuildSlice, opLoad, opStore, opNilCheck, opBinOp, opUnOp, opConvert, opMakeInterface, opMakeFunc, opMakeSlice, opSlice, opFieldAddr, opField, opIndexAddr, opIndex, opTypeAssert, opExtract, opMakeMap, opLookup, opMapUpdate, opInsert, opRange, opNext, opEntry, bDelete, bCopy, bClear, bLen, bAppend, opBuiltin] at h
  case makeSlice t l c =>
    simp only [opC, opPick, opAlloc, opBox, opBuild, opBuildSlice, opLoad, opStore, opNilCheck, opBinOp, opUnOp, opConvert, opMakeInterface, opMakeFunc, opMakeSlice, opSlice, opFieldAddr, opField, opIndexAddr, opIndex, opTypeAssert, opExtract, opMakeMap, opLookup, opMapUpdate, opInsert, opRange, opNext, opEntry, bDelete, bCopy, bClear, bLen, bAppend, opBuiltin] at h
    obtain ⟨v, h, hv⟩ := evalC_sound h
    obtain ⟨u, h, hu⟩ := evalC_sound h
    obtain ⟨z, m', h, hz⟩ := makeSliceC_sound h
    refine ⟨z, m', h, .mem fun ρ I a w hm hn hf => ?_⟩
    obtain ⟨c, w', ρ', h1, h2, h3⟩ := hz ρ I _ _ w hm hn (hv ρ I a hf) (hu ρ I a hf)
    exact ⟨c, w', ρ', by simp [execOp, ho, h1], h2, h3⟩
  case slice t x lo hi mx =>
    simp only [opC, opPick, opAlloc, opBox, opBuild, opBuildSlice, opLoad, opStore, opNilCheck, opBinOp, opUnOp, opConvert, opMakeInterface, opMakeFunc, opMakeSlice, opSlice, opFieldAddr, opField, opIndexAddr, opIndex, opTypeAssert, opExtract, opMakeMap, opLookup, opMapUpdate, opInsert, opRange, opNext, opEntry, bDelete, bCopy, bClear, bLen, bAppend, opBuiltin] at h
    obtain ⟨v, h, hv⟩ := evalC_sound h
    obtain ⟨vl, h, hl⟩ := optC_sound' h
    obtain ⟨vh, h, hh⟩ := optC_sound' h
    obtain ⟨vm, h, hmx⟩ := optC_sound' h
    obtain ⟨u, h, hu⟩ := sliceC_sound h
    refine ⟨u, m, h, .pure fun ρ I a w hm hf => ?_⟩
    obtain ⟨c, h1, h2⟩ := hu ρ I _ _ _ _ w hm (hv ρ I a hf) (hl ρ I a hf) (hh ρ I a hf) (hmx ρ I a hf)
    exact ⟨c, by simp [execOp, ho, h1], h2⟩
  case fieldAddr s x f =>
    simp only [opC, opPick, opAlloc, opBox, opBuild, opBuildSlice, opLoad, opStore, opNilCheck, opBinOp, opUnOp, opConvert, opMakeInterface, opMakeFunc, opMakeSlice, opSlice, opFieldAddr, opField, opIndexAddr, opIndex, opTypeAssert, opExtract, opMakeMap, opLookup, opMapUpdate, opInsert, opRange, opNext, opEntry, bDelete, bCopy, bClear, bLen, bAppend, opBuiltin] at h
    obtain ⟨v, h, hv⟩ := evalC_sound h
    split at h
    · rename_i t off hfo
      split at h
      · refine ⟨_, m, h, .pure fun ρ I a w hm hf => ?_⟩
        have := hv ρ I a hf
        generalize hc : a.eval x = c at this
        cases this with | ptr _ _ _ g hg =>
        refine ⟨.pointer (some ⟨g.b, _, none⟩), by simp [execOp, ho, hc, run_fieldAt hfo]; rfl, ?_⟩
        rw [Nat.add_assoc, Nat.add_assoc]; exact .ptr _ _ _ g hg
      · refine ⟨_, m, h, .pure fun ρ I a w hm hf => ?_⟩
        have := hv ρ I a hf
        generalize hc : a.eval x = c at this
        cases this with | cp _ _ _ ad y h1 h2 h3 =>
        refine ⟨.pointer (some ⟨ad.block, _, none⟩), by simp [execOp, ho, hc, run_fieldAt hfo]; rfl, ?_⟩
        rw [Nat.add_assoc]; exact .cp _ _ _ ad y h1 h2 h3
      · simp at h
    · simp at h
  case field s x f =>
    simp only [opC, opPick, opAlloc, opBox, opBuild, opBuildSlice, opLoad, opStore, opNilCheck, opBinOp, opUnOp, opConvert, opMakeInterface, opMakeFunc, opMakeSlice, opSlice, opFieldAddr, opField, opIndexAddr, opIndex, opTypeAssert, opExtract, opMakeMap, opLookup, opMapUpdate, opInsert, opRange, opNext, opEntry, bDelete, bCopy, bClear, bLen, bAppend, opBuiltin] at h
    obtain ⟨v, h, hv⟩ := evalC_sound h
    split at h
    · rename_i t off hfo
      split at h
      · rename_i tk htk
        cases hag : v.isAgg with
        | false => simp [hag] at h
        | true =>
          rw [hag, cond_true] at h
          obtain ⟨u, h, hu⟩ := loadV_part htk h
          refine ⟨u, m, h, .pure fun ρ I a w hm hf => ?_⟩
          have hx := hv ρ I a hf
          obtain ⟨arr, e⟩ := isAgg_agg hx hag
          rw [e] at hx
          obtain ⟨c, h1, h2⟩ := hu ρ I arr w hx
          obtain ⟨fs, fl, hus, hff, rfl, rfl, i, hi, hne⟩ := fieldOf_spec hfo
          exact ⟨c, by simp [execOp, ho, e, Instr.field, asAgg, run_underlying hus, hff, h1], h2⟩
      · simp at h
    · simp at h
  case indexAddr t x i =>
    simp only [opC, opPick, opAlloc, opBox, opBuild, opBuildSlice, opLoad, opStore, opNilCheck, opBinOp, opUnOp, opConvert, opMakeInterface, opMakeFunc, opMakeSlice, opSlice, opFieldAddr, opField, opIndexAddr, opIndex, opTypeAssert, opExtract, opMakeMap, opLookup, opMapUpdate, opInsert, opRange, opNext, opEntry, bDelete, bCopy, bClear, bLen, bAppend, opBuiltin] at h
    obtain ⟨v, h, hv⟩ := evalC_sound h
    obtain ⟨u, h, hu⟩ := evalC_sound h
    obtain ⟨z, h, hz⟩ := indexAddrC_sound h
    refine ⟨z, m, h, .pure fun ρ I a w hm hf => ?_⟩
    obtain ⟨c, h1, h2⟩ := hz ρ I _ _ w hm (hv ρ I a hf) (hu ρ I a hf)
    exact ⟨c, by simp [execOp, ho, h1], h2⟩
  case index t x i =>
    simp only [opC, opPick, opAlloc, opBox, opBuild, opBuildSlice, opLoad, opStore, opNilCheck, opBinOp, opUnOp, opConvert, opMakeInterface, opMakeFunc, opMakeSlice, opSlice, opFieldAddr, opField, opIndexAddr, opIndex, opTypeAssert, opExtract, opMakeMap, opLookup, opMapUpdate, opInsert, opRange, opNext, opEntry, bDelete, bCopy, bClear, bLen, bAppend, opBuiltin] at h
    obtain ⟨v, h, hv⟩ := evalC_sound h
    obtain ⟨u, h, hu⟩ := evalC_sound h
    obtain ⟨z, h, hz⟩ := indexC_sound h
    refine ⟨z, m, h, .pure fun ρ I a w hm hf => ?_⟩
    obtain ⟨c, h1, h2⟩ := hz ρ I _ _ w (hv ρ I a hf) (hu ρ I a hf)
    exact ⟨c, by simp [execOp, ho, h1], h2⟩
  case lookup t x i ok =>
    simp only [opC, opPick, opAlloc, opBox, opBuild, opBuildSlice, opLoad, opStore, opNilCheck, opBinOp, opUnOp, opConvert, opMakeInterface, opMakeFunc, opMakeSlice, opSlice, opFieldAddr, opField, opIndexAddr, opIndex, opTypeAssert, opExtract, opMakeMap, opLookup, opMapUpdate, opInsert, opRange, opNext, opEntry, bDelete, bCopy, bClear, bLen, bAppend, opBuiltin] at h
    obtain ⟨v, h, hv⟩ := evalC_sound h
    obtain ⟨u, h, hu⟩ := evalC_sound h
    obtain ⟨z, h, hz⟩ := lookupC_sound h
    refine ⟨z, m, h, .pure fun ρ I a w hm hf => ?_⟩
    obtain ⟨c, h1, h2⟩ := hz ρ I _ _ w hm (hv ρ I a hf) (hu ρ I a hf)
    exact ⟨c, by simp [execOp, ho, h1], h2⟩
  case mapUpdate t x i y =>
    simp only [opC, opPick, opAlloc, opBox, opBuild, opBuildSlice, opLoad, opStore, opNilCheck, opBinOp, opUnOp, opConvert, opMakeInterface, opMakeFunc, opMakeSlice, opSlice, opFieldAddr, opField, opIndexAddr, opIndex, opTypeAssert, opExtract, opMakeMap, opLookup, opMapUpdate, opInsert, opRange, opNext, opEntry, bDelete, bCopy, bClear, bLen, bAppend, opBuiltin] at h
    obtain ⟨v, h, hv⟩ := evalC_sound h
    obtain ⟨u, h, hu⟩ := evalC_sound h
    obtain ⟨z, h, hz⟩ := evalC_sound h
    obtain ⟨m', h, hs⟩ := updateC_sound h
    refine ⟨_, m', h, .unit fun ρ I a w hm hf => ?_⟩
    obtain ⟨w', h1, h2⟩ := hs ρ I _ _ _ w hm (hv ρ I a hf) (hu ρ I a hf) (hz ρ I a hf)
    exact ⟨w', by simp [execOp, ho, h1], h2⟩
  case insert t x i y =>
    simp only [opC, opPick, opAlloc, opBox, opBuild, opBuildSlice, opLoad, opStore, opNilCheck, opBinOp, opUnOp, opConvert, opMakeInterface, opMakeFunc, opMakeSlice, opSlice, opFieldAddr, opField, opIndexAddr, opIndex, opTypeAssert, opExtract, opMakeMap, opLookup, opMapUpdate, opInsert, opRange, opNext, opEntry, bDelete, bCopy, bClear, bLen, bAppend, opBuiltin] at h
    obtain ⟨v, h, hv⟩ := evalC_sound h
    obtain ⟨u, h, hu⟩ := evalC_sound h
    obtain ⟨z, h, hz⟩ := evalC_sound h
    obtain ⟨m', h, hs⟩ := updateC_sound h
    refine ⟨_, m', h, .unit fun ρ I a w hm hf => ?_⟩
    obtain ⟨w', h1, h2⟩ := hs ρ I _ _ _ w hm (hv ρ I a hf) (hu ρ I a hf) (hz ρ I a hf)
    exact ⟨w', by simp [execOp, ho, h1], h2⟩
  case makeMap t q =>
    simp only [opC, opPick, opAlloc, opBox, opBuild, opBuildSlice, opLoad, opStore, opNilCheck, opBinOp, opUnOp, opConvert, opMakeInterface, opMakeFunc, opMakeSlice, opSlice, opFieldAddr, opField, opIndexAddr, opIndex, opTypeAssert, opExtract, opMakeMap, opLookup, opMapUpdate, opInsert, opRange, opNext, opEntry, bDelete, bCopy, bClear, bLen, bAppend, opBuiltin] at h
    split at h
    · rename_i hu
      refine ⟨_, _, h, .mem fun ρ I a w hm hn hf => ?_⟩
      obtain ⟨ρ', h1, h2⟩ := newMap_step hm hn
      exact ⟨_, _, ρ', by simp [execOp, ho, Instr.makeMap, newObj, Sem.run], h2, h1⟩
    · rename_i hu
      obtain ⟨v, h, hv⟩ := evalC_sound h
      split at h
      · refine ⟨_, _, h, .mem fun ρ I a w hm hn hf => ?_⟩
        obtain ⟨ρ', h1, h2⟩ := newMap_step hm hn
        refine ⟨_, _, ρ', ?_, h2, h1⟩
        simp [execOp, ho, Instr.makeMap, run_underlying hu, (hv ρ I a hf).int_inv, asInt, asIntOf, newObj, Sem.run]
      · simp at h
    · simp at h
  case range t x =>
    simp only [opC, opPick, opAlloc, opBox, opBuild, opBuildSlice, opLoad, opStore, opNilCheck, opBinOp, opUnOp, opConvert, opMakeInterface, opMakeFunc, opMakeSlice, opSlice, opFieldAddr, opField, opIndexAddr, opIndex, opTypeAssert, opExtract, opMakeMap, opLookup, opMapUpdate, opInsert, opRange, opNext, opEntry, bDelete, bCopy, bClear, bLen, bAppend, opBuiltin] at h
    obtain ⟨v, h, hv⟩ := evalC_sound h
    split at h
    · rename_i hu
      refine ⟨_, _, h, .mem fun ρ I a w hm hn hf => ?_⟩
      obtain ⟨ρ', h1, h2⟩ := rangeNil_step hm hn
      have hx := (hv ρ I a hf).d_inv
      generalize hc : a.eval x = c at hx
      cases hx
      refine ⟨_, _, ρ', ?_, h2, h1⟩
      simp [execOp, ho, hc, Instr.range, run_underlying hu, newObj, Sem.run]
    · rename_i hu
      split at h
      · rename_i es clock hg
        refine ⟨_, _, h, .mem fun ρ I a w hm hn hf => ?_⟩
        obtain ⟨g, ces, hρ, hc, hb, he⟩ := map_of hm hg (hv ρ I a hf)
        obtain ⟨ρ', h1, h2⟩ := range_step clock hm hn hρ
        refine ⟨_, _, ρ', ?_, h2, h1⟩
        simp [execOp, ho, hc, Instr.range, run_underlying hu, run_getObj_map hb]
      · simp at h
    · simp at h
  case entry x =>
    simp only [opC, opPick, opAlloc, opBox, opBuild, opBuildSlice, opLoad, opStore, opNilCheck, opBinOp, opUnOp, opConvert, opMakeInterface, opMakeFunc, opMakeSlice, opSlice, opFieldAddr, opField, opIndexAddr, opIndex, opTypeAssert, opExtract, opMakeMap, opLookup, opMapUpdate, opInsert, opRange, opNext, opEntry, bDelete, bCopy, bClear, bLen, bAppend, opBuiltin] at h
    obtain ⟨v, h, hv⟩ := evalC_sound h
    obtain ⟨z, h, hz⟩ := entryC_sound (P := P) h
    refine ⟨z, m, h, .pure fun ρ I a w hm hf => ?_⟩
    obtain ⟨c, h1, h2⟩ := hz ρ I _ w hm (hv ρ I a hf)
    exact ⟨c, by simp [execOp, ho, h1], h2⟩
  case typeAssert x xt as ok =>
    simp only [opC, opPick, opAlloc, opBox, opBuild, opBuildSlice, opLoad, opStore, opNilCheck, opBinOp, opUnOp, opConvert, opMakeInterface, opMakeFunc, opMakeSlice, opSlice, opFieldAddr, opField, opIndexAddr, opIndex, opTypeAssert, opExtract, opMakeMap, opLookup, opMapUpdate, opInsert, opRange, opNext, opEntry, bDelete, bCopy, bClear, bLen, bAppend, opBuiltin] at h
    obtain ⟨v, h, hv⟩ := evalC_sound h
    obtain ⟨z, h, hz⟩ := assertC_sound h
    refine ⟨z, m, h, .pure fun ρ I a w hm hf => ?_⟩
    obtain ⟨c, h1, h2⟩ := hz ρ I _ xt w (hv ρ I a hf)
    exact ⟨c, by simp [execOp, ho, h1], h2⟩
  case extract x i =>
    simp only [opC, opPick, opAlloc, opBox, opBuild, opBuildSlice, opLoad, opStore, opNilCheck, opBinOp, opUnOp, opConvert, opMakeInterface, opMakeFunc, opMakeSlice, opSlice, opFieldAddr, opField, opIndexAddr, opIndex, opTypeAssert, opExtract, opMakeMap, opLookup, opMapUpdate, opInsert, opRange, opNext, opEntry, bDelete, bCopy, bClear, bLen, bAppend, opBuiltin] at h
    obtain ⟨v, h, hv⟩ := evalC_sound h
    split at h
    · split at h
      · rename_i vs u hu
        refine ⟨u, m, h, .pure fun ρ I a w hm hf => ?_⟩
        have := hv ρ I a hf
        generalize hc : a.eval x = c at this
        cases this with | tup _ arr hl he =>
        have hlt : i < arr.size := by rw [← hl]; exact getElem?_range hu
        exact ⟨arr[i], by simp [execOp, ho, hc, Instr.extract, hlt], he i u _ hu (by simp [hlt])⟩
      · simp at h
    · simp at h

end Go.Ab
