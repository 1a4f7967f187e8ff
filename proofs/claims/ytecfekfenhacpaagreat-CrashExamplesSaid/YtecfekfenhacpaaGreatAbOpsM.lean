/- Maps written, emptied, ranged over. -/
import Derived.Test.YtecfekfenhacpaaGreatAbOpsL
namespace Go.Ab
open Go
set_option linter.unusedVariables false
set_option linter.unusedSimpArgs false
variable {R : Type} {P : Program}

theorem run_setObj_any {w : World} {b : Nat} {o o' : Obj} (h : w.heap[b]? = some o) (ho : (match o with | .map _ _ => true | .mapIter _ _ _ _ => true | _ => false) = true) :
    (setObj b o').run P w = .ok () { w with heap := w.heap.setIfInBounds b o' } := by
  cases o <;> first | (simp at ho; done) | simp [setObj, Sem.run, h]

theorem heap_lt' {w : World} {b : Nat} {o : Obj} (h : w.heap[b]? = some o) : b < w.heap.size := by
  rw [Array.getElem?_eq_some_iff] at h
  exact h.1

/-- a block that holds no cells is written. -/
theorem StepR.writeObj {ρ : Nm} {I : Im} {m : Mem} {w : World} {n : Nat} {blk blk' : Blk} {g : Gh} {o o' : Obj} (hm : MemR ρ I m w) (hget : m.getW n = some blk) (hρ : ρ n = some g)
    (h : w.heap[g.b]? = some o) (ho : (match o with | .map _ _ => true | .mapIter _ _ _ _ => true | _ => false) = true)
    (hb : BlkR ρ I { w with heap := w.heap.setIfInBounds g.b o' } g blk') : StepR ρ I m w ρ I (m.set n blk') { w with heap := w.heap.setIfInBounds g.b o' } := by
  refine StepR.write hm hget hρ (fun b hb => ?_) (by simp) rfl rfl rfl (fun j x hi => ?_) hb
  · simp only [Array.getElem?_setIfInBounds]
    rw [if_neg (Ne.symm hb)]
  · have := hm.imm _ _ _ hi
    simp only [cellAt, World.cell?, h] at this
    cases o <;> simp at ho <;> simp at this

theorem heap_set_same {w : World} {b : Nat} {o o' : Obj} (h : w.heap[b]? = some o) : ({ w with heap := w.heap.setIfInBounds b o' } : World).heap[b]? = some o' := by
  have := heap_lt' h
  simp [this]

theorem step_map {ρ : Nm} {I : Im} {m : Mem} {w : World} {n : Nat} {es es' : List (Nat × D × V)} {clock clock' : Nat} {g : Gh} {ces ces' : Array MapEntry} (hm : MemR ρ I m w) (hget : m.getW n = some (.map es clock)) (hρ : ρ n = some g)
    (h : w.heap[g.b]? = some (.map ces clock)) (he : EntsR ρ I es' ces'.toList) :
    StepR ρ I m w ρ I (m.set n (.map es' clock')) { w with heap := w.heap.setIfInBounds g.b (.map ces' clock') } :=
  StepR.writeObj hm hget hρ h rfl ⟨ces', heap_set_same h, by simpa using he.1, fun i e c h1 h2 => he.2 i e c h1 (by simpa using h2)⟩

theorem map_of {ρ : Nm} {I : Im} {m : Mem} {w : World} {n : Nat} {es : List (Nat × D × V)} {clock : Nat} {c : Value} (hm : MemR ρ I m w) (hg : m.get n = some (.map es clock)) (hc : RV ρ I (.mp n) c) :
    ∃ g ces, ρ n = some g ∧ c = .map (some g.b) ∧ w.heap[g.b]? = some (.map ces clock) ∧ EntsR ρ I es ces.toList := by
  obtain ⟨g, hρ, ces, hb, hl, he⟩ := hm.blk n _ hg
  cases hc with | mp _ g' hg' =>
  obtain rfl : g' = g := by rw [hρ] at hg'; simpa using hg'.symm
  exact ⟨g', ces, hρ, rfl, hb, by simpa using hl, fun i e c he' hc => he i e c he' (by simpa using hc)⟩

theorem updateC_sound {t : TypeId} {m : Mem} {x ix v : V} {k : Mem → Option R} {r : R} (h : updateC P t m x ix v k = some r) :
    ∃ m', k m' = some r ∧ ∀ ρ I (cx ci cv : Value) (w : World), MemR ρ I m w → RV ρ I x cx → RV ρ I ix ci → RV ρ I v cv →
      ∃ w', (Instr.mapUpdate t cx ci cv).run P w = .ok () w' ∧ StepR ρ I m w ρ I m' w' := by
  unfold updateC at h
  split at h
  · rename_i kk e d n hmk
    obtain ⟨key, td, hu, huk, hsc, hks, hl⟩ := mapKinds_spec hmk
    cases hok : keyOk kk d && v.sto with
    | false => simp [hok] at h
    | true =>
      rw [hok, cond_true] at h
      rw [Bool.and_eq_true] at hok
      split at h
      · rename_i es clock hg
        obtain ⟨o, hf, h⟩ := putC_spec h
        cases o with
        | none =>
          simp only at h
          refine ⟨_, h, fun ρ I cx ci cv w hm hx hi hv => ?_⟩
          obtain ⟨g, ces, hρ, rfl, hb, he⟩ := map_of hm (Mem.get_of_getW hg) hx
          cases hi with | d _ _ hi =>
          have hfk := findKey_sound huk hsc hks hi w he hf
          simp only [Option.bind_none] at hfk
          refine ⟨_, ?_, step_map (ces' := ces.push { key := ci, val := cv, born := clock }) hm hg hρ hb ⟨by simp [he.1], fun i e c h1 h2 => ?_⟩⟩
          · simp [Instr.mapUpdate, run_underlying hu, run_getObj_map hb, checkKey_ok huk hsc hks hl hi hok.1, hfk, run_setObj_any hb rfl]
          · simp only [Array.toList_push] at h2
            by_cases hi' : i < es.length
            · rw [List.getElem?_append_left hi'] at h1
              rw [List.getElem?_append_left (by rw [← he.1]; exact hi')] at h2
              exact he.2 i e c h1 h2
            · rw [List.getElem?_append_right (by omega)] at h1
              rw [List.getElem?_append_right (by rw [← he.1]; omega), ← he.1] at h2
              have h0 : i - es.length = 0 := by
                have := getElem?_range h1
                simp at this; omega
              rw [h0] at h1 h2
              simp at h1 h2
              subst h1; subst h2
              exact ⟨rfl, hi, hv, hok.2⟩
        | some i =>
          obtain ⟨en, hen, h⟩ := h
          refine ⟨_, h, fun ρ I cx ci cv w hm hx hi hv => ?_⟩
          obtain ⟨g, ces, hρ, rfl, hb, he⟩ := map_of hm (Mem.get_of_getW hg) hx
          cases hi with | d _ _ hi =>
          have hfk := findKey_sound huk hsc hks hi w he hf
          have hilt : i < ces.size := by have := getElem?_range hen; have := he.1; simp at this; omega
          have hc : ces.toList[i]? = some ces[i] := by simp [hilt]
          simp only [Option.bind_some, hc, Option.map_some] at hfk
          obtain ⟨e1, he1, htrue⟩ := hf.1
          obtain rfl : e1 = en := by rw [hen] at he1; simpa using he1.symm
          obtain ⟨b1, b2, b3, b4⟩ := he.2 i _ _ hen hc
          have hsame : Instr.sameBits 10000 ces[i].key ci = true := sameBits_key htrue hi b2 9999
          have hkeep : (Instr.keyThatStays ces[i].key ci).run P w = .ok ci w := by simp [Instr.keyThatStays, hsame]
          refine ⟨_, ?_, step_map (ces' := ces.modify i fun e => { e with key := ci, val := cv }) hm hg hρ hb ⟨by simp [he.1], fun j e c h1 h2 => ?_⟩⟩
          · simp [Instr.mapUpdate, run_underlying hu, run_getObj_map hb, checkKey_ok huk hsc hks hl hi hok.1, hfk, hilt, hkeep, run_setObj_any hb rfl]
          · rw [Array.toList_modify] at h2
            by_cases hj : j = i
            · subst hj
              rw [List.getElem?_set_self (by have := he.1; simp at this; omega)] at h1
              simp [List.getElem?_modify, hilt] at h2
              simp at h1; subst h1; subst h2
              exact ⟨b1, hi, hv, hok.2⟩
            · rw [List.getElem?_set_ne (Ne.symm hj)] at h1
              rw [List.getElem?_modify] at h2
              simp only [if_neg (Ne.symm hj)] at h2
              simp only [Option.map_eq_map, Option.map_id'] at h2
              exact he.2 j e c h1 h2
      · simp at h
  · simp at h

end Go.Ab
