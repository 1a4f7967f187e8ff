/- Regions that draw their order: marks, cuts, the frame of a step. -/
import Derived.Test.YtecfekfenhacpaaGreatAbCall
namespace Go.Ab
open Go
set_option linter.unusedVariables false
set_option linter.unusedSimpArgs false
variable {R : Type} {P : Program}

theorem hasN_iff {n : Nat} : ∀ {l : List Nat}, hasN n l = true ↔ n ∈ l
  | [] => by simp [hasN_nil, hasN_cons]
  | m :: r => by
    by_cases h : m = n
    · simp [hasN_nil, hasN_cons, beq_true.2 h, h]
    · have : ¬ n = m := Ne.symm h
      simp [hasN_nil, hasN_cons, beq_false.2 h, hasN_iff (l := r), this]

theorem meetsN_iff {l : List Nat} : ∀ {ns : List Nat}, meetsN l ns = true ↔ ∃ n, n ∈ ns ∧ n ∈ l
  | [] => by simp [meetsN]
  | m :: r => by
    by_cases h : hasN m l = true
    · simp [meetsN, h, hasN_iff.1 h]
    · have h' : m ∉ l := fun hm => h (hasN_iff.2 hm)
      simp [meetsN, h, meetsN_iff (ns := r), h']

theorem pickBefore_iff {b n : Nat} : ∀ {l : List (Nat × List Nat)}, n ∈ pickBefore b l ↔ ∃ x, x ∈ l ∧ b.testBit x.1 = false ∧ n ∈ x.2
  | [] => by simp [pickBefore]
  | (i, ns) :: r => by
    cases h : b.testBit i <;> simp [pickBefore, h, pickBefore_iff (l := r)]

theorem getEnt_name : ∀ {l : List Ent} {n : Nat} {e : Ent}, getEnt l n = some e → e.n = n
  | [], n, e, h => by simp [getEnt_nil, getEnt_cons] at h
  | x :: r, n, e, h => by
    simp only [getEnt_nil, getEnt_cons] at h
    cases hb : Nat.beq x.n n with
    | true => simp [hb] at h; subst h; exact beq_true.1 hb
    | false => rw [hb, cond_false] at h; exact getEnt_name h

theorem getEnt_mark (hide ro : List Nat) (n : Nat) : ∀ l : List Ent, getEnt (markEnt hide ro l) n = (getEnt l n).map fun e => ⟨e.n, e.b, e.ro || hasN e.n ro, e.hid || hasN e.n hide⟩
  | [] => rfl
  | x :: r => by
    simp only [markEnt, getEnt_nil, getEnt_cons]
    cases hb : Nat.beq x.n n with
    | true => rfl
    | false => simpa using getEnt_mark hide ro n r

theorem mark_ent {m : Mem} {hide ro : List Nat} {n : Nat} : getEnt (m.mark hide ro).l n = (getEnt m.l n).map fun e => ⟨n, e.b, e.ro || hasN n ro, e.hid || hasN n hide⟩ := by
  unfold Mem.mark
  rw [getEnt_mark]
  cases h : getEnt m.l n with
  | none => rfl
  | some e => simp [getEnt_name h]

theorem mark_get {m : Mem} {hide ro : List Nat} {n : Nat} {b : Blk} : (m.mark hide ro).get n = some b ↔ m.get n = some b ∧ n ∉ hide := by
  rw [Mem.get_iff, Mem.get_iff, mark_ent]
  cases h : getEnt m.l n with
  | none => simp
  | some e =>
    cases hh : hasN n hide with
    | true => simp [hasN_iff.1 hh]
    | false =>
      have : n ∉ hide := fun hm => by rw [hasN_iff.2 hm] at hh; simp at hh
      simp [this]

theorem mark_getW {m : Mem} {hide ro : List Nat} {n : Nat} {b : Blk} : (m.mark hide ro).getW n = some b ↔ m.getW n = some b ∧ n ∉ hide ∧ n ∉ ro := by
  rw [Mem.getW_iff, Mem.getW_iff, mark_ent]
  cases h : getEnt m.l n with
  | none => simp
  | some e =>
    cases hh : hasN n hide with
    | true => simp [hasN_iff.1 hh]
    | false =>
      have h1 : n ∉ hide := fun hm => by rw [hasN_iff.2 hm] at hh; simp at hh
      cases hr : hasN n ro with
      | true => simp [hasN_iff.1 hr]
      | false =>
        have h2 : n ∉ ro := fun hm => by rw [hasN_iff.2 hm] at hr; simp at hr
        simp [h1, h2]

theorem markEnt_nil : ∀ l : List Ent, markEnt [] [] l = l
  | [] => rfl
  | e :: r => by simp [markEnt, hasN_nil, hasN_cons, markEnt_nil r]

theorem mark_nil (m : Mem) : m.mark [] [] = m := by
  cases m; simp [Mem.mark, markEnt_nil]

/-! ### the frame of a step -/

theorem MemR.sub {ρ : Nm} {I : Im} {m m' : Mem} {w : World} (h : MemR ρ I m w) (hs : ∀ n b, m'.get n = some b → m.get n = some b) (hwf : ∀ n e, getEnt m'.l n = some e → n < m'.next) : MemR ρ I m' w :=
  ⟨fun n b hb => h.blk n b (hs n b hb), fun n n' b b' g g' h1 h2 => h.inj n n' b b' g g' (hs _ _ h1) (hs _ _ h2), h.imm, h.dom, hwf⟩

theorem getW_none_get {m : Mem} {n : Nat} {b : Blk} (h : m.getW n = none) (hg : m.get n = some b) : ∃ e, getEnt m.l n = some e ∧ e.b = b ∧ e.hid = false ∧ e.ro = true := by
  obtain ⟨e, h1, h2, h3⟩ := Mem.get_iff.1 hg
  refine ⟨e, h1, h2, h3, ?_⟩
  cases hr : e.ro with
  | true => rfl
  | false =>
    have : m.getW n = some b := Mem.getW_iff.2 ⟨e, h1, h2, h3, hr⟩
    rw [this] at h; simp at h

/-- a step in a part of the memory is a step in the whole. -/
theorem StepC.frame {ρ ρ' : Nm} {I I' : Im} {m m0 m1 m' : Mem} {w w' : World} (hm : MemR ρ I m w) (h0 : ∀ n b, m0.get n = some b → m.get n = some b) (h0W : ∀ n b, m0.getW n = some b → m.getW n = some b)
    (hs : StepR ρ I m0 w ρ' I' m1 w')
    (h1 : ∀ n b, m'.get n = some b → m1.get n = some b ∨ (m.get n = some b ∧ m0.getW n = none))
    (h1W : ∀ n b, m'.getW n = some b → m1.getW n = some b ∨ m.getW n = some b) (hwf : ∀ n e, getEnt m'.l n = some e → n < m'.next) : StepC ρ I m w ρ' I' m' w' := by
  have notOwn : ∀ n g, (∃ b, m.get n = some b) → m0.getW n = none → ρ n = some g → ¬ Own ρ m0 g.b := by
    rintro n g ⟨b, hb⟩ hn hg ⟨n2, b2, g2, a1, a2, a3⟩
    have e := hm.inj n2 n _ _ g2 g (h0 _ _ (Mem.get_of_getW a1)) hb a2 hg a3
    subst e; rw [hn] at a1; simp at a1
  have mixed : ∀ n n' b b' g g', m1.get n = some b → m.get n' = some b' → m0.getW n' = none → ρ' n = some g → ρ' n' = some g' → g.b = g'.b → n = n' := by
    intro n n' b b' g g' a1 a2 a3 e1 e2 e
    obtain ⟨g2, hg2, _⟩ := hm.blk n' b' a2
    obtain rfl : g2 = g' := by have := hs.ext _ _ hg2; rw [this] at e2; simpa using e2
    rcases hs.see g.b ⟨n, b, g, a1, e1, rfl⟩ with ⟨n2, b2, g3, c1, c2, c3⟩ | hge
    · have e3 := hm.inj n2 n' _ _ g3 g2 (h0 _ _ c1) a2 c2 hg2 (c3.trans e)
      subst e3
      obtain ⟨en, d1, d2, d3, d4⟩ := getW_none_get a3 c1
      have hk := hs.keep _ _ d1 (.inl d4)
      exact hs.mem.inj n n2 b b2 g g2 a1 (Mem.get_iff.2 ⟨en, hk, d2, d3⟩) e1 e2 e
    · have := hm.dom _ _ hg2; omega
  refine ⟨hs.ext, hs.exi, ⟨fun n b h => ?_, fun n n' b b' g g' a1 a2 e1 e2 e => ?_, hs.mem.imm, hs.mem.dom, hwf⟩, hs.size, fun b hb hn => hs.old b hb fun ⟨n2, b2, g2, a1, a2, a3⟩ => hn ⟨n2, b2, g2, h0W _ _ a1, a2, a3⟩,
    fun b j hb hn => hs.oldI b j hb fun ⟨n2, b2, g2, a1, a2, a3⟩ => hn ⟨n2, b2, g2, h0W _ _ a1, a2, a3⟩, ?_, ?_, hs.os, hs.out, hs.tape⟩
  · rcases h1 n b h with h | ⟨h, hn⟩
    · exact hs.mem.blk n b h
    · obtain ⟨g, hg, hb⟩ := hm.blk n b h
      have hno := notOwn n g ⟨b, h⟩ hn hg
      have hd := hm.dom _ _ hg
      exact ⟨g, hs.ext _ _ hg, hb.congr hs.ext hs.exi (hs.old g.b hd hno) fun j => hs.oldI g.b j hd hno⟩
  · rcases h1 n b a1 with a1 | ⟨a1, b1⟩ <;> rcases h1 n' b' a2 with a2 | ⟨a2, b2⟩
    · exact hs.mem.inj n n' b b' g g' a1 a2 e1 e2 e
    · exact mixed n n' b b' g g' a1 a2 b2 e1 e2 e
    · exact (mixed n' n b' b g' g a2 a1 b1 e2 e1 e.symm).symm
    · obtain ⟨g2, hg2, _⟩ := hm.blk n b a1
      obtain ⟨g3, hg3, _⟩ := hm.blk n' b' a2
      obtain rfl : g2 = g := by have := hs.ext _ _ hg2; rw [this] at e1; simpa using e1
      obtain rfl : g3 = g' := by have := hs.ext _ _ hg3; rw [this] at e2; simpa using e2
      exact hm.inj n n' b b' g2 g3 a1 a2 hg2 hg3 e
  · rintro b ⟨n, blk, g, a1, a2, a3⟩
    rcases h1W n blk a1 with a1 | a1
    · rcases hs.own b ⟨n, blk, g, a1, a2, a3⟩ with ⟨n2, b2, g2, c1, c2, c3⟩ | h
      · exact .inl ⟨n2, b2, g2, h0W _ _ c1, c2, c3⟩
      · exact .inr h
    · obtain ⟨g2, hg2, _⟩ := hm.blk n blk (Mem.get_of_getW a1)
      obtain rfl : g2 = g := by have := hs.ext _ _ hg2; rw [this] at a2; simpa using a2
      exact .inl ⟨n, blk, g2, a1, hg2, a3⟩
  · rintro b ⟨n, blk, g, a1, a2, a3⟩
    rcases h1 n blk a1 with a1 | ⟨a1, _⟩
    · rcases hs.see b ⟨n, blk, g, a1, a2, a3⟩ with ⟨n2, b2, g2, c1, c2, c3⟩ | h
      · exact .inl ⟨n2, b2, g2, h0 _ _ c1, c2, c3⟩
      · exact .inr h
    · obtain ⟨g2, hg2, _⟩ := hm.blk n blk a1
      obtain rfl : g2 = g := by have := hs.ext _ _ hg2; rw [this] at a2; simpa using a2
      exact .inl ⟨n, blk, g2, a1, hg2, a3⟩

/-- a step into a memory is one into any that shows the same. -/
theorem StepC.same {ρ ρ' : Nm} {I I' : Im} {m m1 m' : Mem} {w w' : World} (hs : StepC ρ I m w ρ' I' m1 w')
    (h1 : ∀ n b, m'.get n = some b → m1.get n = some b) (h1W : ∀ n b, m'.getW n = some b → m1.getW n = some b) (hwf : ∀ n e, getEnt m'.l n = some e → n < m'.next) : StepC ρ I m w ρ' I' m' w' :=
  ⟨hs.ext, hs.exi, hs.mem.sub h1 hwf, hs.size, hs.old, hs.oldI, fun b ⟨n, blk, g, a1, a2, a3⟩ => hs.own b ⟨n, blk, g, h1W _ _ a1, a2, a3⟩, fun b ⟨n, blk, g, a1, a2, a3⟩ => hs.see b ⟨n, blk, g, h1 _ _ a1, a2, a3⟩, hs.os, hs.out, hs.tape⟩

/-! ### what comes back from marked memory -/

noncomputable def fixEnt (was : List Ent) (l : List Nat) (e : Ent) : Ent := bif hasN e.n l then match getEnt was e.n with
    | some x => ⟨e.n, e.b, x.ro, x.hid⟩
    | none => e
    else e

theorem fixEnt_name (was : List Ent) (l : List Nat) (e : Ent) : (fixEnt was l e).n = e.n := by
  unfold fixEnt
  cases hasN e.n l with
  | false => rfl
  | true => cases getEnt was e.n <;> rfl

theorem unmark_cons (was : List Ent) (l : List Nat) (x : Ent) (r : List Ent) : unmarkEnt was l (x :: r) = fixEnt was l x :: unmarkEnt was l r := rfl

theorem getEnt_unmark' (was : List Ent) (l : List Nat) (n : Nat) : ∀ r : List Ent, getEnt (unmarkEnt was l r) n = (getEnt r n).map (fixEnt was l)
  | [] => rfl
  | x :: r => by
    have ih := getEnt_unmark' was l n r
    rw [unmark_cons, getEnt_cons, fixEnt_name, getEnt_cons]
    cases hb : Nat.beq x.n n with
    | true => rfl
    | false => rw [cond_false, cond_false]; exact ih

theorem getEnt_unmark (was : List Ent) (l : List Nat) (n : Nat) (r : List Ent) : getEnt (unmarkEnt was l r) n = (getEnt r n).map fun e => bif hasN n l then match getEnt was n with
    | some x => ⟨e.n, e.b, x.ro, x.hid⟩
    | none => e
    else e := by
  rw [getEnt_unmark']
  cases h : getEnt r n with
  | none => rfl
  | some e =>
    have hn := getEnt_name h
    subst hn
    rfl

/-- what a memory is to one that was marked and worked upon. -/
structure Back (m m1 m' : Mem) (hide ro h2 : List Nat) : Prop where
  next : m'.next = m1.next
  was : ∀ n e, getEnt m.l n = some e → (n ∈ hide ∨ n ∈ ro ∨ e.ro = true ∨ e.hid = true) → getEnt m'.l n = some ⟨n, e.b, e.ro, e.hid || hasN n h2⟩
  old : ∀ n e', getEnt m'.l n = some e' → getEnt m1.l n = some e' ∨ ((n ∈ hide ∨ n ∈ ro) ∧ ∃ e, getEnt m.l n = some e)
  dom : ∀ n e', getEnt m'.l n = some e' → ∃ e1, getEnt m1.l n = some e1

theorem back_nil {m m1 : Mem} (hk : ∀ n e, getEnt m.l n = some e → (e.ro = true ∨ e.hid = true) → getEnt m1.l n = some e) : Back m m1 m1 [] [] [] := by
  refine ⟨rfl, fun n e he hf => ?_, fun n e' h => .inl h, fun n e' h => ⟨e', h⟩⟩
  have := hk n e he (by simpa using hf)
  rw [this]
  have hn := getEnt_name he
  subst hn
  simp [hasN_nil, hasN_cons]

theorem back_unmark {m m1 : Mem} {hide ro h2 : List Nat} (hh : ∀ n, n ∈ h2 → n ∈ hide) (hk : ∀ n e, getEnt (m.mark hide ro).l n = some e → (e.ro = true ∨ e.hid = true) → getEnt m1.l n = some e) :
    Back m m1 (Mem.unmark (m.mark h2 []) (hide ++ ro) m1) hide ro h2 := by
  refine ⟨rfl, fun n e he hf => ?_, fun n e' h => ?_, fun n e' h => ?_⟩
  · have hmk : getEnt (m.mark hide ro).l n = some ⟨n, e.b, e.ro || hasN n ro, e.hid || hasN n hide⟩ := by rw [mark_ent, he]; rfl
    have h1 := hk n _ hmk (by
      rcases hf with h | h | h | h
      · right; simp [hasN_iff.2 h]
      · left; simp [hasN_iff.2 h]
      · left; simp [h]
      · right; simp [h])
    show getEnt (unmarkEnt _ _ m1.l) n = _
    rw [getEnt_unmark, h1, mark_ent, he]
    simp only [Option.map_some]
    cases hl : hasN n (hide ++ ro) with
    | true => simp [hasN_nil, hasN_cons]
    | false =>
      have hnl : n ∉ hide ++ ro := fun hm => by rw [hasN_iff.2 hm] at hl; simp at hl
      have e1 : hasN n hide = false := by
        cases hx : hasN n hide with
        | false => rfl
        | true => exact absurd (List.mem_append.2 (.inl (hasN_iff.1 hx))) hnl
      have e2 : hasN n ro = false := by
        cases hx : hasN n ro with
        | false => rfl
        | true => exact absurd (List.mem_append.2 (.inr (hasN_iff.1 hx))) hnl
      have e3 : hasN n h2 = false := by
        cases hx : hasN n h2 with
        | false => rfl
        | true => exact absurd (List.mem_append.2 (.inl (hh n (hasN_iff.1 hx)))) hnl
      simp [e1, e2, e3]
  · replace h : getEnt (unmarkEnt (m.mark h2 []).l (hide ++ ro) m1.l) n = some e' := h
    rw [getEnt_unmark] at h
    cases he1 : getEnt m1.l n with
    | none => rw [he1] at h; simp at h
    | some e1 =>
      rw [he1] at h
      simp only [Option.map_some, Option.some.injEq] at h
      cases hl : hasN n (hide ++ ro) with
      | false => rw [hl, cond_false] at h; subst h; exact .inl rfl
      | true =>
        rw [hl, cond_true] at h
        have hm : n ∈ hide ∨ n ∈ ro := List.mem_append.1 (hasN_iff.1 hl)
        cases hme : getEnt m.l n with
        | none => rw [mark_ent, hme] at h; simp at h; subst h; exact .inl rfl
        | some e => exact .inr ⟨hm, e, rfl⟩
  · replace h : getEnt (unmarkEnt (m.mark h2 []).l (hide ++ ro) m1.l) n = some e' := h
    rw [getEnt_unmark] at h
    cases he1 : getEnt m1.l n with
    | none => rw [he1] at h; simp at h
    | some e1 => exact ⟨e1, rfl⟩

/-! ### cuts -/

theorem cutF_get {fr : Frame} {s : Nat} {v : V} : ∀ {l : List Nat}, (cutF fr l).get s = some v → fr.get s = some v ∧ s ∈ l
  | [], h => by simp [cutF, Frame.get_nil, Frame.get_cons] at h
  | t :: r, h => by
    simp only [cutF] at h
    split at h
    · rename_i u hu
      simp only [Frame.get_nil, Frame.get_cons] at h
      cases hb : Nat.beq t s with
      | true =>
        rw [hb, cond_true] at h
        have := beq_true.1 hb
        subst this
        rw [hu]; exact ⟨h, by simp⟩
      | false =>
        rw [hb, cond_false] at h
        obtain ⟨h1, h2⟩ := cutF_get h
        exact ⟨h1, by simp [h2]⟩
    · obtain ⟨h1, h2⟩ := cutF_get h
      exact ⟨h1, by simp [h2]⟩

theorem cutEnt_get {l : List Ent} {n : Nat} {e : Ent} : ∀ {ns : List Nat}, getEnt (cutEnt l ns) n = some e → n ∈ ns ∧ e.ro = true ∧ e.hid = false ∧ ∃ e', getEnt l n = some e' ∧ e'.b = e.b ∧ e'.hid = false
  | [], h => by simp [cutEnt, getEnt_nil, getEnt_cons] at h
  | m :: r, h => by
    simp only [cutEnt] at h
    split at h
    · rename_i k b ro hm
      simp only [getEnt_nil, getEnt_cons] at h
      cases hb : Nat.beq k n with
      | true =>
        rw [hb, cond_true] at h
        have e1 := beq_true.1 hb
        have e2 : k = m := getEnt_name hm
        subst e1; subst e2
        simp at h; subst h
        exact ⟨by simp, rfl, rfl, _, hm, rfl, rfl⟩
      | false =>
        rw [hb, cond_false] at h
        obtain ⟨h1, h2⟩ := cutEnt_get h
        exact ⟨by simp [h1], h2⟩
    · obtain ⟨h1, h2⟩ := cutEnt_get h
      exact ⟨by simp [h1], h2⟩

theorem newEnts_get {lo n : Nat} : ∀ {l : List Ent}, getEnt (newEnts lo l) n = if lo ≤ n then getEnt l n else none
  | [] => by simp [newEnts, getEnt_nil, getEnt_cons]
  | e :: r => by
    have ih := newEnts_get (lo := lo) (n := n) (l := r)
    simp only [newEnts]
    cases hb : Nat.ble lo e.n with
    | true =>
      have hle : lo ≤ e.n := Nat.le_of_ble_eq_true hb
      simp only [cond_true, getEnt_nil, getEnt_cons, ih]
      cases hq : Nat.beq e.n n with
      | true => have := beq_true.1 hq; subst this; simp [hle]
      | false => simp
    | false =>
      have hlt : ¬ lo ≤ e.n := fun h => by rw [Nat.ble_eq_true_of_le h] at hb; simp at hb
      simp only [cond_false, ih, getEnt_nil, getEnt_cons]
      cases hq : Nat.beq e.n n with
      | true => have := beq_true.1 hq; subst this; simp [hlt]
      | false => simp

theorem getEnt_append {n : Nat} {l : List Ent} : ∀ {k : List Ent}, getEnt (k ++ l) n = match getEnt k n with | some e => some e | none => getEnt l n
  | [] => by simp [getEnt_nil, getEnt_cons]
  | e :: r => by
    simp only [List.cons_append, getEnt_nil, getEnt_cons]
    cases Nat.beq e.n n with
    | true => rfl
    | false => simpa using getEnt_append (k := r)

theorem allLe_spec {h : Nat} : ∀ {l : List Ent} {n : Nat} {e : Ent}, allLe h l = true → getEnt l n = some e → n ≤ h
  | [], n, e, _, he => by simp [getEnt_nil, getEnt_cons] at he
  | x :: r, n, e, hl, he => by
    simp only [allLe] at hl
    cases hb : Nat.ble x.n h with
    | false => simp [hb] at hl
    | true =>
      rw [hb, cond_true] at hl
      simp only [getEnt_nil, getEnt_cons] at he
      cases hq : Nat.beq x.n n with
      | true => have := beq_true.1 hq; subst this; exact Nat.le_of_ble_eq_true hb
      | false => rw [hq, cond_false] at he; exact allLe_spec hl he

theorem takeNew_spec {lo : Nat} {m : Mem} {new : List Ent} (h : takeNew lo m = some new) : new = newEnts lo m.l ∧ lo ≤ m.next ∧ ∀ n e, getEnt new n = some e → n ≤ m.next := by
  unfold takeNew at h
  cases hb : Nat.ble lo m.next && allLe m.next (newEnts lo m.l) with
  | false => simp [hb] at h
  | true =>
    rw [hb, cond_true] at h
    simp at h; subst h
    rw [Bool.and_eq_true] at hb
    exact ⟨rfl, Nat.le_of_ble_eq_true hb.1, fun n e he => allLe_spec hb.2 he⟩

theorem entNames_iff {n : Nat} : ∀ {l : List Ent}, n ∈ entNames l ↔ ∃ e, getEnt l n = some e
  | [] => by simp [entNames, getEnt_nil, getEnt_cons]
  | x :: r => by
    simp only [entNames, List.mem_cons, getEnt_nil, getEnt_cons]
    cases hq : Nat.beq x.n n with
    | true => have := beq_true.1 hq; simp [this]
    | false =>
      have := beq_false.1 hq
      have h' : ¬ n = x.n := Ne.symm this
      simp [h', entNames_iff (l := r)]

theorem dropDst_get {s : Nat} {v : V} : ∀ {l : List Oper} {fr : Frame}, (dropDst l fr).get s = some v → fr.get s = some v ∧ ∀ o, o ∈ l → o.dst ≠ some s
  | [], fr, h => ⟨h, by simp⟩
  | o :: r, fr, h => by
    simp only [dropDst] at h
    split at h
    · rename_i d hd
      obtain ⟨h1, h2⟩ := dropDst_get h
      have key : ∀ fr : Frame, Frame.get (fr.filter fun x => !Nat.beq x.1 d) s = some v → fr.get s = some v ∧ s ≠ d := by
        intro fr
        induction fr with
        | nil => intro h; simp [Frame.get_nil, Frame.get_cons] at h
        | cons x fr ih =>
          intro h
          simp only [List.filter_cons] at h
          cases hx : Nat.beq x.1 d with
          | true =>
            simp [hx] at h
            obtain ⟨i1, i2⟩ := ih h
            have := beq_true.1 hx
            refine ⟨?_, i2⟩
            obtain ⟨x1, x2⟩ := x
            simp only [Frame.get_nil, Frame.get_cons]
            have hb : Nat.beq x1 s = false := beq_false.2 fun e => i2 (by simp at this; omega)
            rw [hb, cond_false]; exact i1
          | false =>
            simp [hx] at h
            obtain ⟨x1, x2⟩ := x
            simp only [Frame.get_nil, Frame.get_cons] at h ⊢
            cases hb : Nat.beq x1 s with
            | true =>
              rw [hb, cond_true] at h
              have e1 := beq_true.1 hb
              have e2 := beq_false.1 hx
              exact ⟨by simpa using h, by simp at e2; omega⟩
            | false =>
              rw [hb, cond_false] at h
              obtain ⟨i1, i2⟩ := ih h
              exact ⟨by simpa using i1, i2⟩
      obtain ⟨h3, h4⟩ := key fr h1
      refine ⟨h3, fun o' ho' => ?_⟩
      rcases List.mem_cons.1 ho' with rfl | ho'
      · rw [hd]; simpa using Ne.symm h4
      · exact h2 o' ho'
    · rename_i hd
      obtain ⟨h1, h2⟩ := dropDst_get h
      refine ⟨h1, fun o' ho' => ?_⟩
      rcases List.mem_cons.1 ho' with rfl | ho'
      · rw [hd]; simp
      · exact h2 o' ho'

/-! ### operations that are no effects -/

theorem guardSt_sound {ops : Array Oper} {fr : Frame} {o : Oper} {b : Bool} (h : guardSt ops fr o.guard = some b) {ρ : Nm} {I : Im} {tmps : Array Value} (hf : FrameR ρ I fr tmps) : Region.wanted o (yielded ops tmps) = b := by
  unfold guardSt at h
  split at h
  · rename_i hg
    simp at h; subst h
    simp [Region.wanted, hg]
  · rename_i j want hg
    split at h
    · rename_i s hs
      have hy := guardSlot_yield hs tmps
      split at h
      · rename_i c hc
        obtain ⟨y, hy1, hy2⟩ := hf _ _ hc
        have e := hy2.bool_inv
        subst e
        rw [hy1] at hy
        simp only [Region.wanted, hg, hy]
        cases c <;> cases want <;> cases b <;> first | rfl | (simp at h)
      · rename_i hc
        obtain ⟨y, hy1, hy2⟩ := hf _ _ hc
        cases hy2
        rw [hy1] at hy
        simp at h; subst h
        simp [Region.wanted, hg, hy, undef]
      · simp at h
    · simp at h

theorem isNext_of_isE {o : Op} (h : isE o = false) : isNext o = false := by
  cases o <;> first | rfl | (simp [isE] at h)

theorem nonE_sound {ops : Array Oper} {fr : Frame} {m m' : Mem} {o : Oper} {v : V} (h : nonE P ops fr m o = some (v, m')) (he : isE o.op = false) {i : Nat} (hi : ops[i]? = some o)
    {ρ : Nm} {I : Im} {a : Act} {w : World} (hm : MemR ρ I m w) (hn : ρ m.next = none) (hf : FrameR ρ I fr a.tmps) {K : Act → World → Prop} {Q : Exit → Act → World → Prop}
    (hk : ∀ c w' ρ' I', RV ρ' I' v c → StepR ρ I m w ρ' I' m' w' → K (a.put o.dst c) w') : wpOp P ops Q i K a w := by
  unfold nonE at h
  unfold wpOp
  rw [hi]
  simp only
  split at h
  · rename_i hg
    rw [guardSt_sound hg hf, if_pos rfl]
    obtain ⟨v1, m1, e, hF⟩ := opF_sound (isNext_of_isE he) h
    simp at e
    obtain ⟨rfl, rfl⟩ := e
    refine .inl ?_
    obtain ⟨x, w', u, n, ρ', I', hrun, ⟨rfl, rfl⟩, hx, hst⟩ := hF ρ I a w hm hn hf
    unfold Oper.wp
    rw [hrun]
    cases x with
    | value c => rw [Oper.upon_value]; exact hk c w' ρ' I' hx hst
    | skip => simp only at hx; subst hx; rw [Oper.upon_skip]; exact hk undef w' ρ' I' .und hst
    | _ => exact hx.elim
  · rename_i hg
    rw [guardSt_sound hg hf, if_neg (by simp)]
    simp at h
    obtain ⟨rfl, rfl⟩ := h
    exact hk undef w ρ I .und (.refl hm)
  · simp at h

end Go.Ab
