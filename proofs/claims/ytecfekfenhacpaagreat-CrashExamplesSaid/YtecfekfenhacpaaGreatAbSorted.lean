/- slices.Sorted(maps.Keys(m)) at whole numbers: answered by its contract. -/
import Derived.Test.YtecfekfenhacpaaGreatAbRun
import Derived.Shelf.SlIterI.Nil
namespace Go.Ab
open Go Go.RowKit Go.Maps Go.Sort Go.Shelf Go.WideElems
set_option linter.unusedVariables false
set_option linter.unusedSimpArgs false
variable {R : Type} {P : Program}

/-- a world in which only new blocks came. -/
theorem StepR.below {ρ : Nm} {I : Im} {m : Mem} {w w' : World} (hm : MemR ρ I m w) (hb : Below w.heap.size w w') : StepR ρ I m w ρ I m w' := by
  have hold : ∀ b, b < w.heap.size → w'.heap[b]? = w.heap[b]? := hb.block
  refine ⟨⟨ExtN.refl _, ExtI.refl _, ⟨fun n b h => ?_, hm.inj, fun b j x h => ?_, fun n g h => ?_, hm.wf⟩, hb.size, fun b h _ => hold b h, fun _ _ _ _ => rfl, fun _ h => .inl h, fun _ h => .inl h, hb.os, hb.output, hb.tape⟩, Nat.le_refl _, fun _ _ h => .inl h, fun _ _ h _ => h⟩
  · obtain ⟨g, h1, h2⟩ := hm.blk n b h
    exact ⟨g, h1, h2.congr (ExtN.refl _) (ExtI.refl _) (hold _ (hm.dom _ _ h1)) fun _ => rfl⟩
  · have hc := hm.imm b j x h
    rw [cellAt_congr (hold b (heap_lt hc))]; exact hc
  · have := hm.dom _ _ h; have := hb.size; omega

def insI (x : Int) : List Int → List Int
  | [] => [x]
  | y :: r => if x ≤ y then x :: y :: r else y :: insI x r
def isortI : List Int → List Int
  | [] => []
  | x :: r => insI x (isortI r)

theorem insI_perm (x : Int) : ∀ l, (insI x l).Perm (x :: l)
  | [] => .refl _
  | y :: r => by
    unfold insI
    split
    · exact .refl _
    · exact ((insI_perm x r).cons y).trans (.swap x y r)

theorem isortI_perm : ∀ l, (isortI l).Perm l
  | [] => .refl _
  | x :: r => (insI_perm x _).trans ((isortI_perm r).cons x)

theorem insI_sorted (x : Int) : ∀ l : List Int, l.Pairwise (fun a b => leI a b = true) → (insI x l).Pairwise (fun a b => leI a b = true)
  | [], _ => by simp [insI]
  | y :: r, h => by
    unfold insI
    have h' := List.pairwise_cons.1 h
    split
    · rename_i hxy
      refine List.pairwise_cons.2 ⟨fun z hz => ?_, h⟩
      rcases List.mem_cons.1 hz with rfl | hz
      · simpa [leI] using hxy
      · have := h'.1 z hz
        simp only [leI, decide_eq_true_eq] at this ⊢
        omega
    · rename_i hxy
      refine List.pairwise_cons.2 ⟨fun z hz => ?_, insI_sorted x r h'.2⟩
      have := (insI_perm x r).mem_iff.1 hz
      rcases List.mem_cons.1 this with rfl | hz
      · simp only [leI, decide_eq_true_eq]; omega
      · exact h'.1 z hz

theorem isortI_sorted : ∀ l : List Int, (isortI l).Pairwise (fun a b => leI a b = true)
  | [] => List.Pairwise.nil
  | x :: r => insI_sorted x _ (isortI_sorted r)

theorem isortI_merge {l ss : List Int} (h : ss.Perm l) : ss.mergeSort leI = isortI l := by
  have tr : ∀ a b c : Int, leI a b = true → leI b c = true → leI a c = true := fun a b c h1 h2 => by simp only [leI, decide_eq_true_eq] at *; exact Int.le_trans h1 h2
  have to : ∀ a b : Int, (leI a b || leI b a) = true := fun a b => by simp only [leI, Bool.or_eq_true, decide_eq_true_eq]; exact Int.le_total a b
  refine List.Perm.eq_of_pairwise (le := fun a b => leI a b = true) (fun a b _ _ h1 h2 => ?_) (List.pairwise_mergeSort tr to ss) (isortI_sorted l) (((List.mergeSort_perm ss leI).trans h).trans (isortI_perm l).symm)
  simp only [leI, decide_eq_true_eq] at h1 h2
  exact Int.le_antisymm h1 h2

def okKey (n : Int) : Bool := decide (-9223372036854775808 ≤ n) && decide (n ≤ 9223372036854775807)

/-- a map's keys, if they are whole numbers, no two alike, and its entries' stamps are below its clock, no two alike. -/
noncomputable def intKeysC (clock : Nat) : List (Nat × D × V) → Option (List Int)
  | [] => some []
  | (b, .int .i64 n, _) :: r => match intKeysC clock r with
    | some l => bif Nat.blt b clock && (okKey n && (!(l.any fun x => x == n) && !(r.any fun e => Nat.beq e.1 b))) then some (n :: l) else none
    | none => none
  | _ :: _ => none

noncomputable def sortedC (fK : FuncId) (args : List V) (mem : Mem) (k : Res → Mem → Option R) : Option R :=
  match args with
  | [.fnc f [] [.ptr n 0 0]] => bif Nat.beq f fK then match mem.get n with
    | some (.var _ (.mp m)) => match mem.get m with
      | some (.map es clock) => bif Nat.ble es.length 1000000 then match intKeysC clock es with
        | some [] => k (.ret (.d .nils)) mem
        | some l => k (.ret (.own mem.next)) (mem.alloc (.arr ⟨false, 1⟩ (.is .i64 (isortI l)) none false))
        | none => none
        else none
      | _ => none
    | _ => none
    else none
  | _ => none

/-- what the library's contract says. -/
def SortedSaid (P : Program) (fS fK : FuncId) (kt et : TypeId) : Prop :=
  ∀ (Bm b nn : Nat) (D0 : DataW Unit) (R : Value → Option (DataW Unit × List MemPlace)) (w : World), Bm < w.heap.size → w.cell? ⟨Bm, 0, none⟩ = some (.map (some b)) → w.ownsMap P kt R b nn D0 → Maps.size D0 ≤ 1000000 →
    Calls P fS #[.func (.func fK) #[] #[.pointer (some ⟨Bm, 0, none⟩)]] w fun e w' => ∃ (v : Value) (ss : List Int), e = .returned v ∧ ss.Perm (intKeys D0) ∧
      w'.ownsRow w.heap.size et 1 v ss.length ((ss.mergeSort (fun x y => decide (x ≤ y))).map encZ) ∧ (v = .slice none 0 0 ↔ ss = []) ∧ Below w.heap.size w w'

theorem intKeysC_spec {clock : Nat} {ρ : Nm} {I : Im} : ∀ {es : List (Nat × D × V)} {l : List Int} {ces : List MapEntry}, intKeysC clock es = some l → EntsR ρ I es ces →
    (∀ c, c ∈ ces → c.born < clock) ∧ (ces.map (·.born)).Nodup ∧ ces.map (·.key) = l.map encZ ∧ l.Nodup ∧ ∀ n, n ∈ l → okKey n = true
  | [], l, ces, h, he => by
    simp [intKeysC] at h; subst h
    cases ces with
    | nil => simp
    | cons c ces => simp [EntsR] at he
  | (b, x, v) :: es, l, [], h, he => by simp [EntsR] at he
  | (b, x, v) :: es, l, c :: ces, h, he => by
    obtain ⟨h1, h2⟩ := he.cons
    unfold intKeysC at h
    split at h
    · rename_i heq; simp at heq
    · rename_i b' n v' r heq
      simp only [List.cons.injEq, Prod.mk.injEq] at heq
      obtain ⟨⟨rfl, rfl, rfl⟩, rfl⟩ := heq
      split at h
      · rename_i l' hl'
        obtain ⟨i1, i2, i3, i4, i5⟩ := intKeysC_spec hl' h2
        cases hc : (Nat.blt b clock && (okKey n && (!(l'.any fun x => x == n) && !(es.any fun e => Nat.beq e.1 b)))) with
        | false => rw [hc] at h; simp at h
        | true =>
          rw [hc, cond_true] at h
          simp at h; subst h
          simp only [Bool.and_eq_true, Bool.not_eq_true'] at hc
          obtain ⟨c1, c2, c3, c4⟩ := hc
          have hb : c.born = b := h1.1.symm
          have hk : c.key = encZ n := by
            have := h1.2.1
            generalize c.key = q at this
            cases this; rfl
          have hlt : b < clock := by simpa using c1
          have hn : n ∉ l' := fun hm => by
            have : (l'.any fun x => x == n) = true := List.any_eq_true.2 ⟨n, hm, by simp⟩
            rw [this] at c3; simp at c3
          have hbn : b ∉ ces.map (·.born) := fun hm => by
            obtain ⟨c', hc', e⟩ := List.mem_map.1 hm
            obtain ⟨i, hi, ei⟩ := List.getElem_of_mem hc'
            have hi' : i < es.length := by rw [h2.1]; exact hi
            have := (h2.2 i _ _ (List.getElem?_eq_getElem hi') (List.getElem?_eq_getElem hi)).1
            have : (es.any fun e => Nat.beq e.1 b) = true := List.any_eq_true.2 ⟨es[i], List.getElem_mem _, by rw [beq_true, this, ei, e]⟩
            rw [this] at c4; simp at c4
          refine ⟨fun c' hc' => ?_, ?_, ?_, List.nodup_cons.2 ⟨hn, i4⟩, fun m hm => ?_⟩
          · rcases List.mem_cons.1 hc' with rfl | hc'
            · omega
            · exact i1 c' hc'
          · rw [List.map_cons, List.nodup_cons]
            exact ⟨by rw [hb]; exact hbn, i2⟩
          · simp [hk, i3]
          · rcases List.mem_cons.1 hm with rfl | hm
            · exact c2
            · exact i5 m hm
      · simp at h
    · simp at h

theorem insert_perm (x : Lit × DataW Unit) : ∀ l : List (Lit × DataW Unit), (DataW.insert x l).Perm (x :: l)
  | [] => .refl _
  | y :: r => by
    unfold DataW.insert
    split
    · exact .refl _
    · exact ((insert_perm x r).cons y).trans (.swap x y r)

theorem foldr_perm : ∀ l : List (Lit × DataW Unit), (l.foldr DataW.insert []).Perm l
  | [] => .refl _
  | x :: r => (insert_perm x _).trans ((foldr_perm r).cons x)

theorem okKey_wf {n : Int} (h : okKey n = true) : (Lit.int .i64 n).wf = true := by
  unfold okKey at h
  simp only [Bool.and_eq_true, decide_eq_true_eq] at h
  simp only [Lit.wf, IntKind.min, IntKind.max, IntKind.signed, IntKind.bits, Bool.and_eq_true, decide_eq_true_eq, if_true]
  omega

/-- a map of whole numbers, as the library's contracts speak of one. -/
theorem ownsMap_of {kt : TypeId} (hkt : P.underlying kt = some (.int .i64)) {w : World} {b clock : Nat} {ces : Array MapEntry} {l : List Int} (hb : w.heap[b]? = some (.map ces clock)) (hlen : ces.size ≤ 1000000)
    (h1 : ∀ c, c ∈ ces.toList → c.born < clock) (h2 : (ces.toList.map (·.born)).Nodup) (h3 : ces.toList.map (·.key) = l.map encZ) (h4 : l.Nodup) (h5 : ∀ n, n ∈ l → okKey n = true) :
    ∃ D0 : DataW Unit, w.ownsMap P kt (fun _ => some (.nil, [])) b ces.size D0 ∧ (intKeys D0).Perm l ∧ Maps.size D0 ≤ 1000000 := by
  have hrd : ∀ c, c ∈ ces.toList → ∃ n, c.key = encZ n ∧ rd P kt (fun _ => some ((.nil : DataW Unit), ([] : List MemPlace))) c = some (.int .i64 n, .nil) := by
    intro c hc
    have hm : c.key ∈ ces.toList.map (·.key) := List.mem_map.2 ⟨c, hc, rfl⟩
    rw [h3] at hm
    obtain ⟨n, hn, e⟩ := List.mem_map.1 hm
    refine ⟨n, e.symm, ?_⟩
    simp only [rd, ← e]
    rw [keyOf_int_mk hkt (okKey_wf (h5 n hn))]
    rfl
  have hmap : ∀ (cs : List MapEntry) (ns : List Int), (∀ c, c ∈ cs → c ∈ ces.toList) → cs.map (·.key) = ns.map encZ → (cs.map (rg P kt fun _ => some ((.nil : DataW Unit), ([] : List MemPlace)))) = ns.map fun n => (Lit.int .i64 n, (.nil : DataW Unit)) := by
    intro cs
    induction cs with
    | nil => intro ns _ h; cases ns with
      | nil => rfl
      | cons n ns => simp at h
    | cons c cs ih =>
      intro ns hin h
      cases ns with
      | nil => simp at h
      | cons n ns =>
        simp only [List.map_cons, List.cons.injEq] at h ⊢
        obtain ⟨m, hm, hr⟩ := hrd c (hin c List.mem_cons_self)
        have : m = n := encZ_inj (hm.symm.trans h.1)
        subst this
        exact ⟨by simp [rg, hr], ih ns (fun c' hc' => hin c' (List.mem_cons_of_mem _ hc')) h.2⟩
  have hrg := hmap ces.toList l (fun _ h => h) h3
  have hperm := foldr_perm (ces.toList.map (rg P kt fun _ => some ((.nil : DataW Unit), ([] : List MemPlace))))
  refine ⟨.map ((ces.toList.map (rg P kt fun _ => some (.nil, []))).foldr DataW.insert []), ⟨ces, clock, hb, ⟨by unfold maxLen; omega, ⟨h1, h2, ?_⟩, fun c hc => ?_⟩, Nat.le_refl _, rfl⟩, ?_, ?_⟩
  · rw [h3]
    exact List.pairwise_map.2 (h4.imp fun hne e => hne (encZ_inj e))
  · obtain ⟨n, _, hr⟩ := hrd c hc
    exact ⟨_, hr⟩
  · show (List.map (fun p : Lit × DataW Unit => intOf p.1) _).Perm l
    refine (hperm.map _).trans ?_
    rw [hrg, List.map_map]
    have : (fun p : Lit × DataW Unit => intOf p.1) ∘ (fun n => (Lit.int .i64 n, (.nil : DataW Unit))) = id := rfl
    rw [this, List.map_id]
  · show (List.foldr DataW.insert [] _).length ≤ _
    rw [hperm.length_eq]
    simpa using hlen

theorem sortedC_sound {fS fK : FuncId} {kt et : TypeId} (hkt : P.underlying kt = some (.int .i64)) (henter : ∀ args w, (callFunc fS args).run P w = .ok (.enter fS args) w) (hS : SortedSaid P fS fK kt et) {vs : List V} {mem : Mem} {k : Res → Mem → Option R} {r : R}
    (h : sortedC fK vs mem k = some r) {ρ : Nm} {I : Im} {args : Array Value} {w : World} (hm : MemR ρ I mem w) (hfr : Fresh ρ mem) (hvs : RVs ρ I vs args.toList) :
    Does P fS args w fun e w' => ∃ res mem' ρ' I', k res mem' = some r ∧ ResR ρ' I' res e ∧ StepR ρ I mem w ρ' I' mem' w' := by
  unfold sortedC at h
  split at h
  · rename_i f n
    cases hf : Nat.beq f fK with
    | false => rw [hf] at h; simp at h
    | true =>
      rw [hf, cond_true] at h
      obtain rfl := beq_true.1 hf
      split at h
      · rename_i ek m hg
        split at h
        · rename_i es clock hmg
          cases hle : Nat.ble es.length 1000000 with
          | false => rw [hle] at h; simp at h
          | true =>
            rw [hle, cond_true] at h
            have hle := Nat.le_of_ble_eq_true hle
            -- the argument
            obtain ⟨c, cs, hargs, rc, hnil⟩ := hvs.cons_inv
            obtain rfl := hnil.nil_inv
            have hargs : args = #[c] := by apply Array.toList_inj.1; simpa using hargs
            subst hargs
            cases rc with | fnc _ _ _ asx bs a1 a2 a3 a4 =>
            have e1 : asx = #[] := Array.eq_empty_of_size_eq_zero (by simpa using a1.symm)
            obtain ⟨p, rfl⟩ : ∃ p, bs = #[p] := by
              have : bs.size = 1 := by simpa using a2.symm
              exact ⟨bs[0], by apply Array.ext (by simp [this]); intro i h1 h2; simp at h2; subst h2; rfl⟩
            subst e1
            have rp := a4 0 _ p rfl rfl
            obtain ⟨g, hρ, b1, b2, b3, b4, b5, b6⟩ := hm.blk n _ hg
            cases rp with | ptr _ _ _ g' hg' =>
            obtain rfl : g' = g := by rw [hρ] at hg'; simpa using hg'.symm
            obtain ⟨_, y, hy, ry⟩ := b4 0 (.mp m) rfl
            obtain ⟨g2, ces, hρ2, rfl, hb, hes⟩ := map_of hm hmg ry
            have hbl : g'.b < w.heap.size := heap_lt hy
            unfold Does
            rw [henter]
            have eaddr : (⟨g'.b, g'.o + (0 * g'.sz + 0), none⟩ : Addr) = ⟨g'.b, 0, none⟩ := by simp [b1]
            rw [eaddr]
            have hcs : ces.size = es.length := by have := hes.1; simpa using this.symm
            have core : ∀ l, intKeysC clock es = some l → Calls P fS #[.func (.func f) #[] #[.pointer (some ⟨g'.b, 0, none⟩)]] w fun e w' => ∃ (v : Value) (ss : List Int), e = .returned v ∧
                w'.ownsRow w.heap.size et 1 v l.length ((isortI l).map encZ) ∧ (v = .slice none 0 0 ↔ l = []) ∧ Below w.heap.size w w' := by
              intro l hl
              obtain ⟨s1, s2, s3, s4, s5⟩ := intKeysC_spec hl hes
              obtain ⟨D0, o1, o2, o3⟩ := ownsMap_of hkt hb (by omega) s1 s2 s3 s4 s5
              refine (hS g'.b g2.b ces.size D0 _ w hbl hy o1 o3).mono fun e w' ⟨v, ss, c1, c2, c3, c4, c5⟩ => ?_
              have hp := c2.trans o2
              have hms : ss.mergeSort (fun x y => decide (x ≤ y)) = isortI l := isortI_merge hp
              rw [hms, hp.length_eq] at c3
              refine ⟨v, ss, c1, c3, ?_, c5⟩
              rw [c4]
              constructor
              · intro e; subst e; exact List.Perm.nil_eq hp |>.symm
              · intro e; subst e; exact List.Perm.eq_nil hp
            split at h
            · rename_i hl
              refine (core [] hl).mono fun e w' ⟨v, ss, c1, c2, c3, c4⟩ => ?_
              subst c1
              have := c3.2 rfl
              subst this
              exact ⟨_, _, ρ, I, h, .d _ _ .nils, StepR.below hm c4⟩
            · rename_i l hne hl
              refine (core l hl).mono fun e w' ⟨v, ss, c1, c2, c3, c4⟩ => ?_
              subst c1
              obtain ⟨d1, d2⟩ := c2
              have hlne : l ≠ [] := fun e => hne e
              rcases d2 with ⟨rfl, h0⟩ | ⟨gb, cap, cur, rfl, d3, d4, d5, d6, d7, d8⟩
              · exact absurd (c3.1 rfl) hlne
              · have hlen : (isortI l).length = l.length := (isortI_perm l).length_eq
                let gh : Gh := ⟨gb, 0, 1, l.length, cap⟩
                refine ⟨_, _, ρ.set mem.next gh, I, h, ?_, StepR.fresh (g := gh) hm (hfr _ (Nat.le_refl _)) rfl (fun _ _ h _ => h) (fun _ e h => ⟨e, h⟩) (fun _ _ h => h) (fun _ _ h => h) (.inl d3) (heap_lt' d4)
                  (fun b hb' _ => c4.block b hb') c4.size c4.os c4.output c4.tape (fun j x hi => ?_) ?_⟩
                · exact RV.own mem.next gh (by simp [Nm.set])
                · have : w.heap.size ≤ gb := d3
                  rw [imm_lt hm this] at hi; simp at hi
                · refine ⟨rfl, by simp [Row.len, hlen, gh], d5, by simp, fun j hj => ?_, ⟨rfl, fun i n hn => ?_⟩, fun _ j _ => imm_lt hm d3 j, fun j _ => imm_lt hm d3 j⟩
                  · have hj' : j < cur.size := by rw [d7]; exact hj
                    refine ⟨⟨cur[j], ?_⟩, ?_⟩
                    · simp [cellAt, World.cell?, gh, d4, hj']
                    · simp [unfrozen, World.frozen?, gh, d4]
                  · have h1 : ((isortI l).map encZ)[i]? = some (encZ n) := by rw [List.getElem?_map, hn]; rfl
                    rw [← d8, List.getElem?_take] at h1
                    split at h1
                    · simp only [cellAt, World.cell?, gh, d4]
                      simpa using h1
                    · simp at h1
            · simp at h
        · simp at h
      · simp at h
  · simp at h

end Go.Ab
