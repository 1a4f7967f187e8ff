/- The library's sort of a map's keys at this program; every function is as the evaluator asks. -/
import Derived.Test.YtecfekfenhacpaaGreatAbSorted
import Derived.Test.YtecfekfenhacpaaGreatAbGlue
import Derived.Test.YtecfekfenhacpaaGreatLay
import Derived.Test.YtecfekfenhacpaaGreatChecked
import Derived.KernelRfl
namespace Go.Proofs.YtecfekfenhacpaaGreat.crashExamples
open Go.RowKit Go.Ab Go.Maps Go.Sort Go.Shelf
set_option linter.unusedVariables false

theorem sorts (m : Nat) : AnyZI.SortsIn Tryz.prog Tryz.sortedA_ren Fence.wide m :=
  ⟨fun blk off cap ss W hH hblk hsz => callsIn_wide.2 (AnyM.slices_Sort_int Tryz.sortA blk off cap ss W hH hblk hsz),
   fun p cap W => callsIn_wide.2 (AnyM.slices_Sort_int_none Tryz.sortA p cap W)⟩

theorem sortedSaid : SortedSaid Tryz.prog 168 193 3 3 := by
  intro Bm b nn D0 R w hBm hm hown hmax
  refine (callsIn_wide (n := 5)).1 ?_
  have hseq : SeqGives Fence.wide 2 Tryz.prog 193 #[.pointer (some ⟨Bm, 0, none⟩)] encZ (fun ss => ss.Perm (intKeys D0)) (Maps.size D0) w :=
    AnyZI.keys_gives (ρ := Tryz.keysA_ren) { Tryz.keysA with } Fence.wide _ trivial rfl (by omega) Bm b nn D0 w hBm hm hown
  have cS := AnyZI.sorted_in Tryz.sortedA Fence.wide 5 trivial trivial trivial trivial rfl (by omega) (sorts _) (enters_of Tryz.func192 (by kernel_rfl) rfl) 193 #[.pointer (some ⟨Bm, 0, none⟩)] trivial (enters_of Tryz.func193 (by kernel_rfl) rfl) _ _
    (by unfold maxLen; omega) (by omega) w hseq
  exact cS

noncomputable def over : Over Bool := fun f => bif Nat.beq f 168 then some (sortedC 193) else none

theorem mixed : Tryz.prog.follows .mixedOrders = true := by kernel_rfl
theorem allOk : (Tryz.prog.funcs.toList.all funcOk) = true := by kernel_rfl

theorem progOk : ProgOk Tryz.prog := ⟨mixed, fun f fn h => List.all_eq_true.1 allOk fn (by
  have := Array.mem_of_getElem? h
  simpa using this)⟩

set_option maxRecDepth 100000 in
theorem overOk : OverS Tryz.prog over := by
  intro f t ht vs mem k r h ρ I args w hm hfr hvs
  unfold over at ht
  cases hf : Nat.beq f 168 with
  | false => rw [hf] at ht; simp at ht
  | true =>
    rw [hf, cond_true] at ht
    simp at ht; subst ht
    obtain rfl := beq_true.1 hf
    exact sortedC_sound Tryz.underlying3 (enters_of Tryz.func168 (by kernel_rfl) rfl) sortedSaid h hm hfr hvs

end Go.Proofs.YtecfekfenhacpaaGreat.crashExamples
