/- Maps: deleting, emptying, making. -/
import Derived.Test.YtecfekfenhacpaaGreatAbOpsM
namespace Go.Ab
open Go
set_option linter.unusedVariables false
set_option linter.unusedSimpArgs false
variable {R : Type} {P : Program}

theorem delC_spec {kk : KK} {x : D} : ∀ {es : List (Nat × D × V)} {k : List (Nat × D × V) → Option R} {r : R}, delC kk x es k = some r →
    ∃ o, FirstAt kk x es o ∧ k (match o with | none => es | some i => es.eraseIdx i) = some r
  | [], k, r, h => ⟨none, by intro i e he; simp at he, by simpa [delC] using h⟩
  | e :: es, k, r, h => by
    obtain ⟨n, y, u⟩ := e
    simp only [delC, Option.bind_eq_some_iff] at h
    obtain ⟨b, hb, h⟩ := h
    cases b with
    | true => exact ⟨some 0, ⟨⟨(n, y, u), rfl, hb⟩, by intro j e hj; omega⟩, by simpa using h⟩
    | false =>
      obtain ⟨o, h1, h2⟩ := delC_spec h
      cases o with
      | none => exact ⟨none, h1.none_cons hb, h2⟩
      | some i => exact ⟨some (i + 1), h1.some_cons hb, by simpa using h2⟩

theorem EntsR.eraseIdx {ρ : Nm} {I : Im} : ∀ {es : List (Nat × D × V)} {ces : List MapEntry} (i : Nat), EntsR ρ I es ces → EntsR ρ I (es.eraseIdx i) (ces.eraseIdx i)
  | [], [], i, h => by simpa using h
  | [], c :: ces, i, h => by simp [EntsR] at h
  | e :: es, [], i, h => by simp [EntsR] at h
  | e :: es, c :: ces, 0, h => by simpa using h.cons.2
  | e :: es, c :: ces, i + 1, h => by
    obtain ⟨h1, h2⟩ := h.cons
    have ih := EntsR.eraseIdx i h2
    refine ⟨by simpa using ih.1, fun j e' c' he hc => ?_⟩
    cases j with
    | zero => simp at he hc; subst he; subst hc; exact h1
    | succ j => exact ih.2 j e' c' (by simpa using he) (by simpa using hc)

theorem deleteC_sound {t : TypeId} {m : Mem} {kk : KK} {e : TypeId} {d : D} {n : Nat} {es : List (Nat × D × V)} {clock : Nat} {k : V → Mem → Option R} {r : R}
    (hmk : mapKinds P t = some (kk, e)) (hok : keyOk kk d = true) (hg : m.getW n = some (.map es clock))
    (h : delC kk d es (fun l => k (.tup []) (m.set n (.map l clock))) = some r) :
    ∃ m', k (.tup []) m' = some r ∧ ∀ ρ I (cx ci : Value) (ty : TypeId) (u : Array TypeId) (w : World), u[0]? = some t → MemR ρ I m w → RV ρ I (.mp n) cx → RD I d ci →
      ∃ w', (Builtin.delete_ u ty #[cx, ci]).run P w = .ok (.tuple #[]) w' ∧ StepR ρ I m w ρ I m' w' := by
  obtain ⟨key, td, hu, huk, hsc, hks, hl⟩ := mapKinds_spec hmk
  obtain ⟨o, hf, h⟩ := delC_spec h
  refine ⟨_, h, fun ρ I cx ci ty u w hut hm hx hi => ?_⟩
  obtain ⟨g, ces, hρ, rfl, hb, he⟩ := map_of hm (Mem.get_of_getW hg) hx
  have hfk := findKey_sound huk hsc hks hi w he hf
  cases o with
  | none =>
    simp only [Option.bind_none] at hfk
    exact ⟨_, by simp [Builtin.delete_, hut, run_underlying hu, run_getObj_map hb, checkKey_ok huk hsc hks hl hi hok, hfk, run_setObj_any hb rfl], step_map hm hg hρ hb he⟩
  | some i =>
    obtain ⟨⟨en, hen, _⟩, _⟩ := hf
    have hilt : i < ces.size := by have := getElem?_range hen; have := he.1; simp at this; omega
    have hc : ces.toList[i]? = some ces[i] := by simp [hilt]
    simp only [Option.bind_some, hc, Option.map_some] at hfk
    refine ⟨_, ?_, step_map (ces' := ces.eraseIdxIfInBounds i) hm hg hρ hb ?_⟩
    · simp [Builtin.delete_, hut, run_underlying hu, run_getObj_map hb, checkKey_ok huk hsc hks hl hi hok, hfk, run_setObj_any hb rfl]
    · have := he.eraseIdx i
      rw [Array.eraseIdxIfInBounds, dif_pos hilt]
      simpa using this

theorem delete_nil {t : TypeId} {kk : KK} {e : TypeId} {d : D} (hmk : mapKinds P t = some (kk, e)) (hok : keyOk kk d = true) {I : Im} {ci : Value} (ty : TypeId) {u : Array TypeId} (w : World) (hut : u[0]? = some t) (hi : RD I d ci) :
    (Builtin.delete_ u ty #[.map none, ci]).run P w = .ok (.tuple #[]) w := by
  obtain ⟨key, td, hu, huk, hsc, hks, hl⟩ := mapKinds_spec hmk
  have := checkKey_ok (em := true) huk hsc hks hl hi hok w
  simp [Builtin.delete_, hut, run_underlying hu, this]

theorem step_newObj {ρ : Nm} {I : Im} {m : Mem} {w : World} {blk : Blk} (o : Obj) (hm : MemR ρ I m w) (hn : ρ m.next = none)
    (hb : BlkR (ρ.set m.next ⟨w.heap.size, 0, 0, 0, 0⟩) I (w.alloc o) ⟨w.heap.size, 0, 0, 0, 0⟩ blk) :
    StepR ρ I m w (ρ.set m.next ⟨w.heap.size, 0, 0, 0, 0⟩) I (m.alloc blk) (w.alloc o) := StepR.newBlock hm hn o rfl hb

theorem heap_alloc_new (w : World) (o : Obj) : (w.alloc o).heap[w.heap.size]? = some o := by
  unfold World.alloc
  simp

theorem newMap_step {ρ : Nm} {I : Im} {m : Mem} {w : World} (hm : MemR ρ I m w) (hn : ρ m.next = none) :
    ∃ ρ', StepR ρ I m w ρ' I (m.alloc (.map [] 0)) (w.alloc (.map #[] 0)) ∧ RV ρ' I (.mp m.next) (.map (some w.heap.size)) := by
  refine ⟨_, step_newObj (.map #[] 0) hm hn ⟨#[], heap_alloc_new w _, rfl, fun i e c h => by simp at h⟩, ?_⟩
  exact RV.mp m.next ⟨w.heap.size, 0, 0, 0, 0⟩ (by simp [Nm.set])

end Go.Ab
