/- Writing cells; new blocks. -/
import Derived.Test.YtecfekfenhacpaaGreatAbOps5
namespace Go.Ab
open Go
set_option linter.unusedVariables false
set_option linter.unusedSimpArgs false
variable {R : Type} {P : Program}

/-- a world after cells were written into one block from a place on. -/
structure WroteR (w w' : World) (b o : Nat) (cs : List Value) : Prop where
  cell : ∀ j, cellAt w' b j = if o ≤ j ∧ j < o + cs.length then cs[j - o]? else cellAt w b j
  other : ∀ b', b' ≠ b → w'.heap[b']? = w.heap[b']?
  frz : ∀ j, unfrozen w' b j ↔ unfrozen w b j
  size : w'.heap.size = w.heap.size
  os : w'.os = w.os
  out : w'.output = w.output
  tape : w'.tape = w.tape

theorem run_storeCells {b o : Nat} : ∀ (cs : List Value) (i : Nat) (w : World), (∀ c, c ∈ cs → c.oneCell' = true) →
    (∀ j, j < cs.length → (∃ y, cellAt w b (o + i + j) = some y) ∧ unfrozen w b (o + i + j)) →
    ∃ w', (storeCells ⟨b, o, none⟩ cs i).run P w = .ok () w' ∧ WroteR w w' b (o + i) cs
  | [], i, w, _, _ => ⟨w, rfl, fun j => by simp; omega, fun _ _ => rfl, fun _ => Iff.rfl, rfl, rfl, rfl, rfl⟩
  | c :: cs, i, w, h1, h2 => by
    obtain ⟨⟨y, hy⟩, hu⟩ := h2 0 (by simp)
    simp only [Nat.add_zero] at hy hu
    have hst : (store ((⟨b, o, none⟩ : Addr).add i) c).run P w = .ok () (w.setCell ⟨b, o + i, none⟩ c) := by
      rw [add_none, run_store P w _ c _ (h1 c (by simp))]
      simp only [cellAt] at hy
      simp only [unfrozen] at hu
      simp [hy, hu]
    obtain ⟨w', hr, hw⟩ := run_storeCells cs (i + 1) (w.setCell ⟨b, o + i, none⟩ c) (fun c' h => h1 c' (by simp [h])) (fun j hj => by
      obtain ⟨⟨z, hz⟩, hv⟩ := h2 (j + 1) (by simp; omega)
      have e : o + (i + 1) + j = o + i + (j + 1) := by omega
      rw [e]
      refine ⟨⟨z, ?_⟩, by simp only [unfrozen] at hv ⊢; simpa using hv⟩
      simp only [cellAt] at hz ⊢
      rw [World.cell?_setCell_other]
      · exact hz
      · intro h; simp at h)
    refine ⟨w', by simp only [storeCells, Sem.run_bind, hst, Result.andThen_ok, hr], ?_, ?_, ?_, ?_, ?_, ?_, ?_⟩
    · intro j
      rw [hw.cell j]
      by_cases hj : j = o + i
      · subst hj
        rw [if_neg (by omega), if_pos (by simp)]
        simp only [cellAt] at hy ⊢
        rw [World.cell?_setCell_same _ _ _ hy]
        simp
      · by_cases hj2 : o + (i + 1) ≤ j ∧ j < o + (i + 1) + cs.length
        · rw [if_pos hj2, if_pos (by simp; omega)]
          have : j - (o + i) = (j - (o + (i + 1))) + 1 := by omega
          rw [this]; simp
        · rw [if_neg hj2, if_neg (by simp; omega)]
          simp only [cellAt]
          rw [World.cell?_setCell_other]
          intro h; simp at h; omega
    · intro b' hb
      rw [hw.other b' hb]
      exact heap_setCell_other w ⟨b, o + i, none⟩ b' c hb
    · intro j
      rw [hw.frz j]
      simp [unfrozen]
    · rw [hw.size]; simp
    · rw [hw.os]; rfl
    · rw [hw.out]; rfl
    · rw [hw.tape]; rfl

theorem heap_lt {w : World} {b j : Nat} {y : Value} (h : cellAt w b j = some y) : b < w.heap.size := by
  simp only [cellAt] at h
  exact World.block_lt_of_cell? _ ⟨b, j, none⟩ h

theorem getEnt_set {m : Mem} {n n' : Nat} {b : Blk} (h : n' ≠ n) : getEnt (m.set n b).l n' = getEnt m.l n' := by
  unfold Mem.set
  simp only
  rw [getEnt_setEnt (fun e => ⟨e.n, b, e.ro, e.hid⟩) (fun _ => rfl), if_neg h]

theorem getEnt_del {m : Mem} {n n' : Nat} (h : n' ≠ n) : getEnt (m.del n).l n' = getEnt m.l n' := by
  unfold Mem.del
  simp only
  rw [getEnt_delEnt, if_neg h]

theorem getW_flags {m : Mem} {n : Nat} {b : Blk} {e : Ent} (h : m.getW n = some b) (he : getEnt m.l n = some e) : ¬ (e.ro = true ∨ e.hid = true) := by
  obtain ⟨e', h1, _, h3, h4⟩ := Mem.getW_iff.1 h
  rw [he] at h1; simp at h1; subst h1
  simp [h3, h4]

/-- a block is written. -/
theorem StepR.write {ρ : Nm} {I : Im} {m : Mem} {w w' : World} {n : Nat} {blk blk' : Blk} {g : Gh} (hm : MemR ρ I m w) (hget : m.getW n = some blk) (hρ : ρ n = some g)
    (hother : ∀ b, b ≠ g.b → w'.heap[b]? = w.heap[b]?) (hsize : w'.heap.size = w.heap.size) (hos : w'.os = w.os) (hout : w'.output = w.output) (htape : w'.tape = w.tape)
    (himm : ∀ j x, I g.b j = some x → cellAt w' g.b j = some x) (hb : BlkR ρ I w' g blk') : StepR ρ I m w ρ I (m.set n blk') w' := by
  have hget' := Mem.get_of_getW hget
  have hgetset : ∀ n', (m.set n blk').get n' = if n' = n then some blk' else m.get n' := fun n' => by
    rw [Mem.get_set]; split <;> simp [hget']
  have hgetWset : ∀ n', (m.set n blk').getW n' = if n' = n then some blk' else m.getW n' := fun n' => by
    rw [Mem.getW_set]; split <;> simp [hget]
  have back : ∀ n' b', (m.set n blk').get n' = some b' → ∃ b'', m.get n' = some b'' := fun n' b' h => by
    rw [hgetset] at h
    split at h
    · rename_i e; subst e; exact ⟨_, hget'⟩
    · exact ⟨_, h⟩
  refine ⟨⟨ExtN.refl _, ExtI.refl _, ⟨fun n' b' h => ?_, fun n1 n2 b1 b2 g1 g2 h1 h2 e1 e2 e => ?_, fun b j x h => ?_, fun n' g' h => ?_, fun n' e h => ?_⟩, by omega, ?_, fun _ _ _ _ => rfl, ?_, ?_, hos, hout, htape⟩,
    Nat.le_refl _, fun _ _ h => .inl h, fun n' e he hf => ?_⟩
  · rw [hgetset] at h
    split at h
    · rename_i e; subst e; simp at h; subst h; exact ⟨g, hρ, hb⟩
    · rename_i hne
      obtain ⟨g', hg', hb'⟩ := hm.blk n' b' h
      refine ⟨g', hg', hb'.congr (ExtN.refl _) (ExtI.refl _) (hother _ fun e => hne ?_) fun _ => rfl⟩
      exact hm.inj n' n b' _ g' g h hget' hg' hρ e
  · obtain ⟨_, h1⟩ := back n1 b1 h1
    obtain ⟨_, h2⟩ := back n2 b2 h2
    exact hm.inj n1 n2 _ _ g1 g2 h1 h2 e1 e2 e
  · by_cases hbb : b = g.b
    · subst hbb; exact himm j x h
    · rw [cellAt_congr (hother b hbb)]; exact hm.imm b j x h
  · have h1 := hm.dom n' g' h
    omega
  · by_cases hn : n' = n
    · subst hn
      obtain ⟨e0, he0, _⟩ := Mem.getW_iff.1 hget
      exact hm.wf _ _ he0
    · rw [getEnt_set hn] at h
      exact hm.wf _ _ h
  · intro b hb hn
    refine hother b fun e => hn ⟨n, blk, g, hget, hρ, e.symm⟩
  · rintro b ⟨n', b', g', h1, h2, h3⟩
    rw [hgetWset] at h1
    split at h1
    · rename_i e; subst e; exact .inl ⟨_, blk, g', hget, h2, h3⟩
    · exact .inl ⟨n', b', g', h1, h2, h3⟩
  · rintro b ⟨n', b', g', h1, h2, h3⟩
    obtain ⟨b'', h1⟩ := back n' b' h1
    exact .inl ⟨n', b'', g', h1, h2, h3⟩
  · rw [getEnt_set]
    · exact he
    · intro e'; subst e'; exact getW_flags hget he hf

def Nm.set (ρ : Nm) (n : Nat) (g : Gh) : Nm := fun k => if k = n then some g else ρ k

theorem Nm.set_ext {ρ : Nm} {n : Nat} {g : Gh} (h : ρ n = none) : ExtN ρ (ρ.set n g) := fun k g' e => by
  unfold Nm.set
  split
  · rename_i hk; subst hk; rw [h] at e; simp at e
  · exact e

/-- a new name: for a new block, or for one whose elder name is given up. -/
theorem StepR.fresh {ρ : Nm} {I : Im} {m m0 : Mem} {w w' : World} {blk : Blk} {g : Gh} (hm : MemR ρ I m w) (hfn : ρ m.next = none) (hnext : m0.next = m.next)
    (h0e : ∀ n e, getEnt m.l n = some e → (e.ro = true ∨ e.hid = true) → getEnt m0.l n = some e)
    (h0l : ∀ n e, getEnt m0.l n = some e → ∃ e', getEnt m.l n = some e')
    (h0 : ∀ n b, m0.get n = some b → m.get n = some b) (h0W : ∀ n b, m0.getW n = some b → m.getW n = some b)
    (hg : w.heap.size ≤ g.b ∨ (Own ρ m g.b ∧ ∀ n b g', m0.get n = some b → ρ n = some g' → g'.b ≠ g.b)) (hlt : g.b < w'.heap.size)
    (hother : ∀ b, b < w.heap.size → b ≠ g.b → w'.heap[b]? = w.heap[b]?) (hsize : w.heap.size ≤ w'.heap.size) (hos : w'.os = w.os) (hout : w'.output = w.output) (htape : w'.tape = w.tape)
    (himm : ∀ j x, I g.b j = some x → cellAt w' g.b j = some x) (hb : BlkR (ρ.set m.next g) I w' g blk) :
    StepR ρ I m w (ρ.set m.next g) I (m0.alloc blk) w' := by
  have hext := Nm.set_ext (g := g) hfn
  have hnl : getEnt m0.l m.next = none := by
    cases he : getEnt m0.l m.next with
    | none => rfl
    | some e =>
      obtain ⟨e', he'⟩ := h0l _ _ he
      have := hm.wf _ _ he'
      omega
  have hne : ∀ n b g', m0.get n = some b → ρ n = some g' → g'.b ≠ g.b := by
    intro n b g' h h' e
    rcases hg with hg | ⟨_, hg⟩
    · have := hm.dom _ _ h'; omega
    · exact hg n b g' h h' e
  have hold : ∀ n b, n ≠ m.next → (ρ.set m.next g) n = some b → ρ n = some b := by
    intro n b hn h; unfold Nm.set at h; rwa [if_neg hn] at h
  have hself : (ρ.set m.next g) m.next = some g := by simp [Nm.set]
  refine ⟨⟨hext, ExtI.refl _, ⟨fun n b h => ?_, fun n1 n2 b1 b2 g1 g2 h1 h2 e1 e2 e => ?_, fun b j x h => ?_, fun n g' h => ?_, fun n e h => ?_⟩, hsize, ?_, fun _ _ _ _ => rfl, ?_, ?_, hos, hout, htape⟩, ?_, fun n g' h => ?_, fun n e he hf => ?_⟩
  · rw [Mem.get_alloc, hnext] at h
    split at h
    · rename_i e; subst e; simp at h; subst h; exact ⟨g, hself, hb⟩
    · rename_i hn
      obtain ⟨g', hg', hb'⟩ := hm.blk n b (h0 n b h)
      exact ⟨g', hext _ _ hg', hb'.congr hext (ExtI.refl _) (hother _ (hm.dom _ _ hg') (hne n b g' h hg')) fun _ => rfl⟩
  · rw [Mem.get_alloc, hnext] at h1 h2
    split at h1 <;> split at h2
    · omega
    · rename_i a b; subst a
      rw [hself] at e1; simp at e1; subst e1
      exact absurd e.symm (hne n2 b2 g2 h2 (hold _ _ b e2))
    · rename_i a b; subst b
      rw [hself] at e2; simp at e2; subst e2
      exact absurd e (hne n1 b1 g1 h1 (hold _ _ a e1))
    · rename_i a b
      exact hm.inj n1 n2 b1 b2 g1 g2 (h0 _ _ h1) (h0 _ _ h2) (hold _ _ a e1) (hold _ _ b e2) e
  · by_cases hbb : b = g.b
    · subst hbb; exact himm j x h
    · have hc := hm.imm b j x h
      rw [cellAt_congr (hother b (heap_lt hc) hbb)]; exact hc
  · by_cases hn : n = m.next
    · subst hn; rw [hself] at h; simp at h; subst h; exact hlt
    · have h2 := hm.dom _ _ (hold _ _ hn h)
      omega
  · show n < Nat.succ m0.next
    rw [hnext]
    replace h : getEnt (⟨m0.next, blk, false, false⟩ :: m0.l) n = some e := h
    simp only [getEnt_nil, getEnt_cons] at h
    by_cases hn : m0.next = n
    · omega
    · rw [beq_false.2 hn, cond_false] at h
      obtain ⟨e', he'⟩ := h0l _ _ h
      have := hm.wf _ _ he'
      omega
  · intro b hb hn
    by_cases hbb : b = g.b
    · rcases hg with hg | ⟨hg, _⟩
      · omega
      · exact absurd (hbb ▸ hg) hn
    · exact hother b hb hbb
  · rintro b ⟨n, b', g', h1, h2, h3⟩
    rw [Mem.getW_alloc, hnext] at h1
    split at h1
    · rename_i e; subst e; rw [hself] at h2; simp at h2; subst h2; subst h3
      rcases hg with hg | ⟨hg, _⟩
      · exact .inr hg
      · exact .inl hg
    · rename_i hn
      exact .inl ⟨n, b', g', h0W _ _ h1, hold _ _ hn h2, h3⟩
  · rintro b ⟨n, b', g', h1, h2, h3⟩
    rw [Mem.get_alloc, hnext] at h1
    split at h1
    · rename_i e; subst e; rw [hself] at h2; simp at h2; subst h2; subst h3
      rcases hg with hg | ⟨⟨n1, b1, g1, a1, a2, a3⟩, _⟩
      · exact .inr hg
      · exact .inl ⟨n1, b1, g1, Mem.get_of_getW a1, a2, a3⟩
    · rename_i hn
      exact .inl ⟨n, b', g', h0 _ _ h1, hold _ _ hn h2, h3⟩
  · show m.next ≤ Nat.succ m0.next
    omega
  · by_cases hn : n = m.next
    · refine .inr ⟨by omega, ?_⟩
      show n < Nat.succ m0.next
      omega
    · exact .inl (hold _ _ hn h)
  · have h1 := h0e n e he hf
    show getEnt (⟨m0.next, blk, false, false⟩ :: m0.l) n = some e
    simp only [getEnt_nil, getEnt_cons]
    by_cases hn : m0.next = n
    · rw [← hn, hnext, hnl] at h1; simp at h1
    · simp [beq_false.2 hn, h1]

end Go.Ab
