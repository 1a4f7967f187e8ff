/- AuditExamples returns true. No condition: it has no parameter. -/
import Derived.Test.YtecfekfenhacpaaRows
import Derived.Test.YtecfekfenhacpaaAbSorted
import Derived.Test.YtecfekfenhacpaaAbGlue
import Derived.Test.YtecfekfenhacpaaLay
namespace Go.Proofs.Ytecfekfenhacpaa.auditExamples
open Go.ChangeShapes Go.WideShapes Go.ChangeAt Go.RowKit Go.Ab Go.Maps Go.Sort Go.Shelf
set_option linter.unusedVariables false

theorem own : ownKnob Try.prog.godebug = none := by kernel_rfl

/-! ### the library's sort -/

theorem sorts (m : Nat) : AnyZI.SortsIn Try.prog Try.sortedA_ren Fence.wide m :=
  ⟨fun blk off cap ss W hH hblk hsz => callsIn_wide.2 (AnyM.slices_Sort_int Try.sortA blk off cap ss W hH hblk hsz),
   fun p cap W => callsIn_wide.2 (AnyM.slices_Sort_int_none Try.sortA p cap W)⟩

theorem sortedSaid : SortedSaid Try.prog 48 60 3 3 := by
  intro Bm b nn D0 R w hBm hm hown hmax
  refine (callsIn_wide (n := 5)).1 ?_
  have hseq : SeqGives Fence.wide 2 Try.prog 60 #[.pointer (some ⟨Bm, 0, none⟩)] encZ (fun ss => ss.Perm (intKeys D0)) (Maps.size D0) w :=
    AnyZI.keys_gives (ρ := Try.keysA_ren) { Try.keysA with } Fence.wide _ trivial rfl (by omega) Bm b nn D0 w hBm hm hown
  have cS := AnyZI.sorted_in Try.sortedA Fence.wide 5 trivial trivial trivial trivial rfl (by omega) (sorts _) (enters_of Try.func38 (by kernel_rfl) rfl) 60 #[.pointer (some ⟨Bm, 0, none⟩)] trivial (enters_of Try.func60 (by kernel_rfl) rfl) _ _
    (by unfold maxLen; omega) (by omega) w hseq
  exact cS

/-! ### the evaluator's run -/

def over : Over Bool := fun f => bif Nat.beq f 48 then some (sortedC 60) else none

theorem mixed : Try.prog.follows .mixedOrders = true := by kernel_rfl
theorem allOk : (Try.prog.funcs.toList.all funcOk) = true := by kernel_rfl

theorem progOk : ProgOk Try.prog := ⟨mixed, fun f fn h => List.all_eq_true.1 allOk fn (by
  have := Array.mem_of_getElem? h
  simpa using this)⟩

theorem overOk : OverS Try.prog over := by
  intro f t ht vs mem k r h ρ I args w hm hfr hvs
  unfold over at ht
  cases hf : Nat.beq f 48 with
  | false => rw [hf] at ht; simp at ht
  | true =>
    rw [hf, cond_true] at ht
    simp at ht; subst ht
    obtain rfl := beq_true.1 hf
    exact sortedC_sound Try.underlying3 (enters_of Try.func48 (by kernel_rfl) rfl) sortedSaid h hm hfr hvs

theorem ran : callN Try.prog joinB over 70000 100 3 [] mem0 fin = some true := by kernel_rfl

theorem walk (w : World) : Calls Try.prog 3 #[] w fun e w' => e = .returned (.bool true) ∧ Below w.heap.size w w' :=
  calls_true progOk overOk (enters_of Try.func3 (by kernel_rfl) rfl) ran (I := fun _ _ => none) (fun b j x h => by simp at h) .nil

/-! ### the row -/

set_option maxRecDepth 100000 in
theorem lifted (os : Os) (started : os.Started) (H : Type) (enc : TypeId × Value → H) :
    ReturnsInHanded {} Try.checked os 3 .any (Rows.auditExamplesSpec.pre6 enc Try.prog Try.f3 Rows.auditExamplesRow.domain false) (Rows.auditExamplesSpec.post enc Try.prog Try.f3 false true false false) := by
  refine returnsInHanded_of_change (C := Try.checked) own started (by kernel_rfl) Try.func3
    (ChangeSpec.witness6 (enc := enc) (C := Try.checked) false ⟨#[], #[], []⟩ 8 (by kernel_rfl) (by kernel_rfl) (by kernel_rfl) (by kernel_rfl)) ?_
  intro W base args ds gs before hval0 hW hcnd _
  have hW' := hW
  obtain ⟨p, q, hA0, hV, rfl, hfz, hnd⟩ := hW
  have hA : DataW.TrodAll enc Try.prog W 0 (fun _ => true) true Try.f3.params.toList args.toList ds p := hA0
  rw [Try.params3] at hA
  obtain ⟨rfl, rfl, rfl⟩ := trodAll_none hA
  obtain ⟨rfl, rfl⟩ := trodVars_none hV
  clear hA0 hval0
  simp only [List.append_nil] at hW'
  refine (walk W).mono fun e W' ⟨he, hg⟩ => ?_
  subst he
  exact ⟨_, rfl, post_below (pa := []) (pv := []) hW' (fun _ _ _ => (trodAll_cons_mk (shut_bool Try.underlying4 _) trodAll_mk0)) (fun sp _ => rfl) (fun _ _ => rfl) hg⟩

/-- AuditExamples returns true. -/
theorem proved : Rows.AuditExamplesSaid :=
  OpenClaim.holds_of_wide 3 Try.f3 rfl rfl rfl rfl rfl rfl rfl ⟨rfl, rfl, rfl, rfl, rfl⟩ rfl rfl rfl rfl rfl (by kernel_rfl) Try.func3 (by kernel_rfl)
    (of_decide_eq_true (by kernel_rfl)) (by unfold Func.isWrapper; first | (rw [if_pos (by decide +kernel)]; kernel_rfl) | (rw [if_neg (by decide +kernel)]; exact ⟨rfl, rfl⟩))
    (fun os started H enc _ => lifted os started H enc)
end Go.Proofs.Ytecfekfenhacpaa.auditExamples
