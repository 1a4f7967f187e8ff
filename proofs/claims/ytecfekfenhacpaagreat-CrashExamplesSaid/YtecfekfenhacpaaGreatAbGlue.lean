/- From the evaluator's run to a row. -/
import Derived.Test.YtecfekfenhacpaaGreatAbRun
import Derived.WalkKit
import Derived.ProofKit
import Derived.OpenShut
namespace Go.Ab
open Go Go.RowKit Go.ChangeShapes Go.WideShapes Go.ChangeAt
set_option linter.unusedVariables false
set_option linter.unusedSimpArgs false
variable {P : Program}

theorem kept_below {W W' : World} (hb : Below W.heap.size W W') (may : MemPlace → Prop) : W.keptBut W' may :=
  ⟨hb.os, hb.output, fun i hi => by rw [hb.block i hi]; exact (World.keptBut_refl W may).2.2 i hi⟩

/-- a law's post where nothing that was there has turned. -/
theorem post_below {H : Type} {enc : TypeId × Value → H} {f : Func} {s : ChangeSpec} {apart fresh handsOn : Bool} {W W' : World} {args : Array Value} {v : Value} {ds gs : List (DataW H)} {before pa pv : List MemPlace}
    (hW : DataW.Whole enc P f.params.toList s.vars apart W args.toList ds gs before)
    (hres : ∀ (b : Nat) (sp : Nat → Bool) (hd : Bool), DataW.TrodAll enc P W' b sp hd f.resultTypes.toList (v.resultList f.resultTypes.size) (s.fn H (ds ++ gs)).results [])
    (hargs : ∀ sp : Nat → Bool, (∀ p ∈ before, sp p.block = true) → DataW.TrodAll enc P W' 0 sp true f.params.toList args.toList (s.fn H (ds ++ gs)).args pa)
    (hvars : ∀ sp : Nat → Bool, (∀ p ∈ before, sp p.block = true) → DataW.TrodVars enc P W' sp s.vars (s.fn H (ds ++ gs)).vars pv)
    (hk : Below W.heap.size W W') :
    s.post enc P f apart fresh handsOn false W args v W' := by
  have hold : ∀ p ∈ before, (fun b => decide (b < W.heap.size)) p.block = true := fun p hp => by simpa using hW.lt p hp
  exact ⟨ds, gs, before, [], pa, pv, hW, hres _ _ _, hargs _ hold, hvars _ hold, kept_below hk _, fun h => by simp at h⟩

def joinB (a b : Option Bool) : Option Bool := match a with
  | some x => match b with
    | some y => bif x == y then some x else none
    | none => none
  | none => none

theorem joins : Joins joinB := by
  intro a b r h
  cases a with
  | none => simp [joinB] at h
  | some x =>
    cases b with
    | none => simp [joinB] at h
    | some y => cases x <;> cases y <;> simp [joinB] at h <;> subst h <;> exact ⟨rfl, rfl⟩

def fin (r : Res) (_ : Mem) : Option Bool := match r with
  | .ret (.d (.bool b)) => some b
  | _ => none

theorem fin_true {res : Res} {mem : Mem} (h : fin res mem = some true) : res = .ret (.d (.bool true)) := by
  unfold fin at h
  split at h
  · simp at h; subst h; rfl
  · simp at h

def mem0 : Mem := ⟨0, []⟩

theorem memR0 (I : Im) (w : World) (hI : ∀ b j x, I b j = some x → cellAt w b j = some x) : MemR (fun _ => none) I mem0 w :=
  ⟨fun n b h => by simp [mem0, Mem.get, getEnt_nil, getEnt_cons] at h, fun n n' b b' g g' h => by simp [mem0, Mem.get, getEnt_nil, getEnt_cons] at h, hI, fun n g h => by simp at h, fun n e h => by simp [mem0, getEnt_nil, getEnt_cons] at h⟩

/-- a function that the evaluator runs to 'true' from arguments that are pure data returns true, and changes nothing that was there. -/
theorem calls_true {T : Over Bool} (hP : ProgOk P) (hT : OverS P T) {f : FuncId} (he : ∀ args w, (callFunc f args).run P w = .ok (.enter f args) w) {d rounds : Nat} {vs : List V} (h : callN P joinB T rounds d f vs mem0 fin = some true)
    {I : Im} {args : Array Value} {w : World} (hI : ∀ b j x, I b j = some x → cellAt w b j = some x) (hvs : RVs (fun _ => none) I vs args.toList) :
    Calls P f args w fun e w' => e = .returned (.bool true) ∧ Below w.heap.size w w' := by
  have := callN_sound joins hP hT d f vs mem0 fin true h _ I args w (memR0 I w hI) (fun n _ => rfl) hvs
  unfold Does at this
  rw [he] at this
  refine this.mono fun e w' ⟨res, mem', ρ', I', hk, hres, hst⟩ => ?_
  obtain rfl := fin_true hk
  cases e with
  | returned c =>
    obtain rfl := RV.bool_inv hres
    refine ⟨rfl, hst.os, hst.tape, hst.out, hst.size, fun b hb => hst.old b hb fun ⟨n, blk, g, h1, _⟩ => by simp [mem0, Mem.getW, getEnt_nil, getEnt_cons] at h1⟩
  | _ => exact hres.elim

end Go.Ab
