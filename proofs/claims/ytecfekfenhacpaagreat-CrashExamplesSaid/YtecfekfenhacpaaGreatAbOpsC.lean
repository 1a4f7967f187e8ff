/- append. -/
import Derived.Test.YtecfekfenhacpaaGreatAbOpsB
namespace Go.Ab
open Go
set_option linter.unusedVariables false
set_option linter.unusedSimpArgs false
variable {R : Type} {P : Program}

theorem roomy_spec {n b : Nat} (h : roomy n b = true) : n * b ≤ 140737488355328 ∧ n ≤ 9223372036854775807 := by
  simp only [roomy, Bool.and_eq_true, room] at h
  obtain ⟨h1, h2⟩ := h
  have h1 := Nat.le_of_ble_eq_true h1
  have h2 : 1 ≤ b := by simpa [Nat.blt] using h2
  have : n * 1 ≤ n * b := Nat.mul_le_mul_left _ h2
  omega

theorem run_append_fits {t u ty e : TypeId} {i : TypeInfo} {td : TypeDesc} {w w' : World} {a : Option Addr} {sLen sCap n : Nat} {x : Value} {news : List Value}
    (ht : P.underlying t = some (.slice e)) (hu : P.underlying u = some td) (htd : ∀ k, td ≠ .int k) (hi : P.info? e = some i) (hx : ∀ w : World, (Builtin.lenOf x).run P w = .ok n w)
    (hnew : (Builtin.firstCells i.size n x).run P w = .ok news.toArray w) (hst : ∀ ad, a = some ad → (storeCells (ad.add (sLen * i.size)) news).run P w = .ok () w') (hno : a = none → w' = w)
    (hg : sLen + n ≤ sCap) :
    (Builtin.append_ #[t, u] ty #[.slice a sLen sCap, x]).run P w = .ok (.slice a (sLen + n) sCap) w' := by
  have hm : (td matches .int _) = false := by
    cases td <;> first | (exact absurd rfl (htd _)) | rfl
  cases a with
  | none =>
    obtain rfl := hno rfl
    simp [Builtin.append_, run_underlying ht, run_underlying hu, sizeOf, typeInfo, hi, hx, hg, hnew, hm]
  | some ad =>
    have hst := hst ad rfl
    simp [Builtin.append_, run_underlying ht, run_underlying hu, sizeOf, typeInfo, hi, hx, hg, hnew, hm, hst]

theorem zeroOk_spec {i : TypeInfo} {sz : Nat} (h : zeroOk i sz = true) : ∃ z, i.zero = some z ∧ z.cells.size = sz := by
  unfold zeroOk at h
  split at h
  · rename_i z hz
    exact ⟨z, hz, beq_true.1 h⟩
  · simp at h

theorem heap_drew (w : World) : w.drew.heap = w.heap := rfl

theorem cellAt_drew (w : World) (b j : Nat) : cellAt w.drew b j = cellAt w b j := rfl

/-- what the source of an append is: so many elements, and their cells, in any world that holds what this one holds. -/
structure SrcR (P : Program) (ρ : Nm) (I : Im) (w : World) (ek : EK) (s : Row) (x : Value) (cs : List Value) : Prop where
  len : ∀ w : World, (Builtin.lenOf x).run P w = .ok s.len w
  first : ∀ n, n ≤ s.len → (Builtin.firstCells ek.sz n x).run P w = .ok (cs.take (n * ek.sz)).toArray w
  firstD : ∀ n, n ≤ s.len → (Builtin.firstCells ek.sz n x).run P w.drew = .ok (cs.take (n * ek.sz)).toArray w.drew
  size : cs.length = s.len * ek.sz
  one : ∀ c, c ∈ cs → c.oneCell' = true
  row : RowF ρ I (fun j => cs[j]?) ek s

theorem firstCells_zero (size : Nat) (a : Option Addr) (len cap : Nat) (n : Nat) (h : n * size = 0) (w : World) : (Builtin.firstCells size n (.slice a len cap)).run P w = .ok #[] w := by
  cases a with
  | none => simp [Builtin.firstCells]
  | some ad => simp [Builtin.firstCells, h, loadCells, loadCellsFrom]

theorem firstCells_some {w : World} {b o size n : Nat} {cs : List Value} {len cap : Nat} (hn : n * size ≤ cs.length) (h : ∀ j, j < cs.length → cellAt w b (o + j) = cs[j]?) :
    (Builtin.firstCells size n (.slice (some ⟨b, o, none⟩) len cap)).run P w = .ok (cs.take (n * size)).toArray w := by
  apply run_firstCells_some
  · simp; omega
  · intro j v hv
    rw [List.getElem?_take] at hv
    split at hv
    · rw [add_none]
      have := h j (by omega)
      simp only [cellAt] at this
      rw [this]; exact hv
    · simp at hv

theorem SlR.cells {ρ : Nm} {I : Im} {w : World} {ek : EK} {r : Row} {c : Value} {a : Option Addr} {cap b o : Nat} (h : SlR ρ I w ek r c a cap b o) :
    ∃ cs : List Value, cs.length = r.len * ek.sz ∧ (∀ x, x ∈ cs → x.oneCell' = true) ∧ RowF ρ I (fun j => cs[j]?) ek r ∧ (∀ j, j < cs.length → cellAt w b (o + j) = cs[j]?) ∧
      ∀ w' : World, w'.heap = w.heap → ∀ n, n ≤ r.len → (Builtin.firstCells ek.sz n c).run P w' = .ok (cs.take (n * ek.sz)).toArray w' := by
  obtain ⟨cs, h1, h2, h3, h4⟩ := h.row.list
  refine ⟨cs, h1, h3, h4, fun j hj => h2 j (by omega), fun w' hw n hn => ?_⟩
  rw [h.val]
  by_cases hz : n * ek.sz = 0
  · rw [firstCells_zero _ _ _ _ _ hz, hz]; simp
  · have hlt : n * ek.sz ≤ r.len * ek.sz := Nat.mul_le_mul_right _ hn
    cases a with
    | none =>
      have := h.nil rfl
      have := h.le
      have : n = 0 := by omega
      subst this; simp at hz
    | some ad =>
      rw [h.at_ ad rfl (by omega)]
      refine firstCells_some (by omega) fun j hj => ?_
      rw [show cellAt w' b (o + j) = cellAt w b (o + j) from by simp [cellAt, World.cell?, hw]]
      exact h2 j (by omega)

theorem SlR.src {ρ : Nm} {I : Im} {w : World} {ek : EK} {r : Row} {c : Value} {a : Option Addr} {cap b o : Nat} (h : SlR ρ I w ek r c a cap b o) :
    ∃ cs, SrcR P ρ I w ek r c cs := by
  obtain ⟨cs, h1, h3, h4, h5, h6⟩ := h.cells (P := P)
  exact ⟨cs, fun w => by rw [h.val]; rfl, h6 w rfl, h6 w.drew rfl, h1, h3, h4⟩

theorem strSrc {ρ : Nm} {I : Im} {w : World} (s : List UInt8) : ∃ cs, SrcR P ρ I w ⟨false, 1⟩ (.is .u8 (natsOf s)) (.string ⟨s.toArray⟩) cs := by
  have key : ∀ (w : World) n, n ≤ s.length → (Builtin.firstCells 1 n (.string ⟨s.toArray⟩)).run P w = .ok (((natsOf s).map (Value.int .u8)).take (n * 1)).toArray w := by
    intro w n hn
    simp only [Builtin.firstCells, Sem.run_pure]
    congr 1
    apply Array.ext'
    simp [natsOf, ByteArray.data_extract, List.map_take]
    rfl
  refine ⟨(natsOf s).map (Value.int .u8), fun w => ?_, fun n hn => ?_, fun n hn => ?_, by simp [Row.len], fun c hc => ?_, rfl, fun i n e => ?_⟩
  · simp [Builtin.lenOf, Row.len, natsOf, ByteArray.size]
  · exact key w n (by simpa [Row.len, natsOf] using hn)
  · exact key w.drew n (by simpa [Row.len, natsOf] using hn)
  · simp at hc; obtain ⟨a, _, rfl⟩ := hc; rfl
  · simp [isS, e]

/-- a slice grows into a new row. -/
theorem step_grows {ρ : Nm} {I : Im} {m m0 : Mem} {w : World} {t u ty e : TypeId} {inf : TypeInfo} {td : TypeDesc} {tk : TK} {s r r' : Row} {cs : List Value} {a : Option Addr} {sLen sCap : Nat} {x : Value} {frz : Bool}
    (hm : MemR ρ I m w) (hn : ρ m.next = none) (ht : P.underlying t = some (.slice e)) (hu : P.underlying u = some td) (htd : ∀ k, td ≠ .int k) (htk : tkOf P e = some tk) (hi : P.info? e = some inf) (hz : zeroOk inf tk.size = true)
    (hsrc : SrcR P ρ I w tk.ek s x cs) (olds : List Value) (holdl : olds.length = sLen * tk.ek.sz) (hrl : r.len = sLen) (hold : RowF ρ I (fun j => olds[j]?) tk.ek r)
    (holds : (Builtin.firstCells tk.ek.sz sLen (.slice a sLen sCap)).run P w.drew = .ok olds.toArray w.drew)
    (happ : r.app s = some r') (hroom : roomy r'.len inf.bytes = true) (hg : sCap < sLen + s.len)
    (hm0 : m0.next = m.next) (h0e : ∀ n e, getEnt m.l n = some e → (e.ro = true ∨ e.hid = true) → getEnt m0.l n = some e) (h0l : ∀ n e, getEnt m0.l n = some e → ∃ e', getEnt m.l n = some e')
    (h0 : ∀ n b, m0.get n = some b → m.get n = some b) (h0W : ∀ n b, m0.getW n = some b → m.getW n = some b) :
    ∃ c w' ρ', (Builtin.append_ #[t, u] ty #[.slice a sLen sCap, x]).run P w = .ok c w' ∧ RV ρ' I (.own m.next) c ∧ StepR ρ I m w ρ' I (m0.alloc (.arr tk.ek r' none frz)) w' := by
  obtain ⟨r1, r2⟩ := roomy_spec hroom
  have hlen := Row.app_len happ
  have hek : tk.ek.sz = tk.size := by rw [TK.ek_eq]
  have hsz : inf.size = tk.size := by
    have := (tkOf_spec htk).1
    simp [Program.cellsOf, hi] at this
    omega
  obtain ⟨z, hz1, hz2⟩ := zeroOk_spec hz
  have hfull : cs.take (s.len * tk.ek.sz) = cs := by rw [← hsrc.size]; simp
  have hfirst := hsrc.firstD s.len (Nat.le_refl _)
  rw [hfull] at hfirst
  have hrun := run_append_grows (P := P) (ty := ty) (i := inf) (z := z) (w := w) (a := a) (sLen := sLen) (sCap := sCap) (n := s.len) (x := x) (olds := olds) (news := cs) ht hu htd hi hz1 hsrc.len
    (by rw [hsz, ← hek]; exact hfirst) (by rw [hsz, ← hek]; exact holds) hg (by rw [hlen, hrl] at r1; exact r1) (by omega)
  let cap := grownCap w (sLen + s.len) sCap e
  have hcap : sLen + s.len ≤ cap := grownCap_ge w _ _ e
  let C : Array Value := olds.toArray ++ cs.toArray ++ Builtin.zeroCells z.cells (cap - (sLen + s.len))
  have hC : C.size = cap * tk.ek.sz := by
    simp only [C, Array.size_append, List.size_toArray, size_zeroCells, holdl, hsrc.size, hz2, hek, ← Nat.add_mul]
    congr 1; omega
  have hCget : ∀ j, j < olds.length + cs.length → C[j]? = (olds ++ cs)[j]? := fun j hj => by
    simp only [C]
    rw [Array.getElem?_append_left (by simpa using hj)]
    simp
  have hrow : RowF ρ I (fun j => C[j]?) tk.ek r' := by
    refine RowF.append (hold.congr (ExtN.refl _) (ExtI.refl _) fun j y hj hy => ?_) (hsrc.row.congr (ExtN.refl _) (ExtI.refl _) fun j y hj hy => ?_) happ
    · rw [hrl, ← holdl] at hj
      rw [hCget j (by omega), List.getElem?_append_left hj]; exact hy
    · rw [← hsrc.size] at hj
      rw [hrl, ← holdl, hCget _ (by omega), List.getElem?_append_right (by omega)]
      rw [show olds.length + j - olds.length = j by omega]; exact hy
  refine ⟨_, _, ρ.set m.next ⟨w.heap.size, 0, tk.ek.sz, r'.len, cap⟩, hrun, ?_, ?_⟩
  · have := RV.own (ρ := ρ.set m.next ⟨w.heap.size, 0, tk.ek.sz, r'.len, cap⟩) (I := I) m.next ⟨w.heap.size, 0, tk.ek.sz, r'.len, cap⟩ (by simp [Nm.set])
    simpa only [hlen, hrl] using this
  · have hext := Nm.set_ext (g := ⟨w.heap.size, 0, tk.ek.sz, r'.len, cap⟩) hn
    refine StepR.fresh (g := ⟨w.heap.size, 0, tk.ek.sz, r'.len, cap⟩) hm hn hm0 h0e h0l h0 h0W (.inl (Nat.le_refl _)) (by simp [heap_drew]) (fun b hb hne => ?_) (by simp [heap_drew]) rfl rfl rfl (fun j x hx => ?_) ?_
    · exact heap_alloc_old w.drew _ b hb
    · have := imm_lt hm (b := w.heap.size) (Nat.le_refl _) j
      simp only at hx
      rw [this] at hx; simp at hx
    · have hcell : ∀ j, cellAt (w.drew.alloc (.cells C e)) w.heap.size j = C[j]? := fun j => cellAt_alloc_new w.drew C e j
      refine ⟨rfl, rfl, by show r'.len ≤ cap; omega, by simp, fun j hj => ⟨?_, ?_⟩, ?_, fun _ j _ => imm_lt hm (Nat.le_refl _) j, fun j _ => imm_lt hm (Nat.le_refl _) j⟩
      · show ∃ y, cellAt _ w.heap.size (0 + j) = some y
        rw [Nat.zero_add, hcell]
        have : j < C.size := by rw [hC]; exact hj
        exact ⟨C[j], by simp [this]⟩
      · show unfrozen _ w.heap.size (0 + j)
        rw [Nat.zero_add]; exact unfrozen_alloc_new w.drew C e j
      · rw [rowR_iff]
        refine hrow.congr hext (ExtI.refl _) fun j y _ hy => ?_
        show cellAt _ w.heap.size (0 + j) = _
        rw [Nat.zero_add, hcell]; exact hy

/-- a slice takes more elements in the place behind it. -/
theorem step_fits {ρ : Nm} {I : Im} {w : World} {t u ty e : TypeId} {inf : TypeInfo} {td : TypeDesc} {tk : TK} {s : Row} {cs : List Value} {b o sLen sCap : Nat} {x : Value}
    (ht : P.underlying t = some (.slice e)) (hu : P.underlying u = some td) (htd : ∀ k, td ≠ .int k) (htk : tkOf P e = some tk) (hi : P.info? e = some inf)
    (hsrc : SrcR P ρ I w tk.ek s x cs) (hg : sLen + s.len ≤ sCap) (hcells : ∀ j, j < sCap * tk.ek.sz → (∃ y, cellAt w b (o + j) = some y) ∧ unfrozen w b (o + j)) :
    ∃ w', (Builtin.append_ #[t, u] ty #[.slice (some ⟨b, o, none⟩) sLen sCap, x]).run P w = .ok (.slice (some ⟨b, o, none⟩) (sLen + s.len) sCap) w' ∧ WroteR w w' b (o + sLen * tk.ek.sz) cs := by
  have hek : tk.ek.sz = tk.size := by rw [TK.ek_eq]
  have hsz : inf.size = tk.size := by
    have := (tkOf_spec htk).1
    simp [Program.cellsOf, hi] at this
    omega
  have hfull : cs.take (s.len * tk.ek.sz) = cs := by rw [← hsrc.size]; simp
  have hfirst := hsrc.first s.len (Nat.le_refl _)
  rw [hfull] at hfirst
  have hle : (sLen + s.len) * tk.ek.sz ≤ sCap * tk.ek.sz := Nat.mul_le_mul_right _ hg
  rw [Nat.add_mul, ← hsrc.size] at hle
  obtain ⟨w', hr, hw⟩ := run_storeCells (P := P) (b := b) (o := o + sLen * tk.ek.sz) cs 0 w hsrc.one (fun j hj => by
    have := hcells (sLen * tk.ek.sz + j) (by omega)
    rw [← Nat.add_assoc] at this
    exact this)
  refine ⟨w', ?_, hw⟩
  refine run_append_fits ht hu htd hi hsrc.len (by rw [hsz, ← hek]; exact hfirst) (fun ad e => ?_) (by simp) hg
  simp at e; subst e
  rw [add_none, hsz, ← hek]
  exact hr

end Go.Ab
