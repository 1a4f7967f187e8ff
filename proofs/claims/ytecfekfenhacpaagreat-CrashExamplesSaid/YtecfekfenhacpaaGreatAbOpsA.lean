/- Rows of elements. -/
import Derived.Test.YtecfekfenhacpaaGreatAbOps9
namespace Go.Ab
open Go
set_option linter.unusedVariables false
set_option linter.unusedSimpArgs false
variable {R : Type} {P : Program}

theorem EK.beq_eq {a b : EK} (h : EK.beq a b = true) : a = b := by
  obtain ⟨a1, a2⟩ := a
  obtain ⟨b1, b2⟩ := b
  simp only [EK.beq, Bool.and_eq_true] at h
  obtain ⟨h1, h2⟩ := h
  have := beq_true.1 h2
  subst this
  cases a1 <;> cases b1 <;> simp at h1 <;> rfl

/-- a list of things laid out from a place on, one each so many cells. -/
def LF {α : Type} (c : Nat → Option Value) (sz : Nat) (S : α → (Nat → Option Value) → Prop) (l : List α) : Prop :=
  ∀ (i : Nat) (e : α), l[i]? = some e → S e fun j => c (i * sz + j)

theorem LF.append {α : Type} {c : Nat → Option Value} {sz : Nat} {S : α → (Nat → Option Value) → Prop} {l l' : List α} (h : LF c sz S l) (h' : LF (fun j => c (l.length * sz + j)) sz S l') :
    LF c sz S (l ++ l') := by
  intro i e he
  rw [List.getElem?_append] at he
  split at he
  · exact h i e he
  · rename_i hi
    have := h' _ e he
    have e1 : ∀ j, l.length * sz + ((i - l.length) * sz + j) = i * sz + j := fun j => by
      rw [← Nat.add_assoc, ← Nat.add_mul]; congr 2; omega
    simpa only [e1] using this

theorem LF.cut {α : Type} {c : Nat → Option Value} {sz : Nat} {S : α → (Nat → Option Value) → Prop} {l : List α} (h : LF c sz S l) (lo len : Nat) :
    LF (fun j => c (lo * sz + j)) sz S (cutN l lo len) := by
  intro i e he
  unfold cutN at he
  rw [List.getElem?_take] at he
  split at he
  · rw [List.getElem?_drop] at he
    have := h _ e he
    have e1 : ∀ j, lo * sz + (i * sz + j) = (lo + i) * sz + j := fun j => by rw [Nat.add_mul]; omega
    simpa only [e1] using this
  · simp at he

theorem LF.congr {α : Type} {c c' : Nat → Option Value} {sz : Nat} {S S' : α → (Nat → Option Value) → Prop} {l : List α} (h : LF c sz S l)
    (hs : ∀ (i : Nat) (e : α), l[i]? = some e → S e (fun j => c (i * sz + j)) → S' e fun j => c' (i * sz + j)) : LF c' sz S' l :=
  fun i e he => hs i e he (h i e he)

def isS (k : IntKind) : Int → (Nat → Option Value) → Prop := fun n c => c 0 = some (.int k n)
def dsS (I : Im) (ek : EK) : D → (Nat → Option Value) → Prop := fun e c => EOk ek e ∧ ∀ (j : Nat) (x : D), e.cells[j]? = some x → x.isAgg = false ∧ ∃ y, c j = some y ∧ RD I x y
def vsS (ρ : Nm) (I : Im) (ek : EK) : V → (Nat → Option Value) → Prop := fun e c => VOk ek e ∧ ∀ (j : Nat) (x : V), e.cells[j]? = some x → x.isCell = true ∧ ∃ y, c j = some y ∧ RV ρ I x y

def RowF (ρ : Nm) (I : Im) (c : Nat → Option Value) (ek : EK) : Row → Prop
  | .is k l => ek = ⟨false, 1⟩ ∧ LF c ek.sz (isS k) l
  | .ds l => LF c ek.sz (dsS I ek) l
  | .vs l => LF c ek.sz (vsS ρ I ek) l

theorem rowR_iff {ρ : Nm} {I : Im} {w : World} {g : Gh} {ek : EK} {r : Row} : RowR ρ I w g ek r ↔ RowF ρ I (fun j => cellAt w g.b (g.o + j)) ek r := by
  cases r with
  | is k l =>
    constructor
    · rintro ⟨rfl, h⟩
      refine ⟨rfl, fun i n e => ?_⟩
      have := h i n e
      simpa [isS] using this
    · rintro ⟨rfl, h⟩
      refine ⟨rfl, fun i n e => ?_⟩
      have := h i n e
      simpa [isS] using this
  | ds l => exact Iff.rfl
  | vs l => exact Iff.rfl

theorem ds_vs {ρ : Nm} {I : Im} {ek : EK} {e : D} {c : Nat → Option Value} (h : dsS I ek e c) : vsS ρ I ek (.d e) c := by
  refine ⟨h.1, fun j u eu => ?_⟩
  simp only [V.cells, List.getElem?_map, Option.map_eq_some_iff] at eu
  obtain ⟨z, hz, rfl⟩ := eu
  obtain ⟨b1, y, b2, b3⟩ := h.2 j z hz
  exact ⟨by simp [V.isCell, b1], y, b2, .d _ _ b3⟩

theorem LF.ds_vs {ρ : Nm} {I : Im} {ek : EK} {l : List D} {c : Nat → Option Value} {sz : Nat} (h : LF c sz (dsS I ek) l) : LF c sz (vsS ρ I ek) (dsV l) := by
  intro i e he
  simp only [dsV, List.getElem?_map, Option.map_eq_some_iff] at he
  obtain ⟨z, hz, rfl⟩ := he
  exact Ab.ds_vs (h i z hz)

theorem Row.app_len {r s t : Row} (h : r.app s = some t) : t.len = r.len + s.len := by
  unfold Row.app at h
  split at h <;> (try split at h) <;> simp at h <;> subst h <;> simp [Row.len, dsV]

theorem Row.cut_len (r : Row) (lo len : Nat) (h : lo + len ≤ r.len) : (r.cut lo len).len = len := by
  cases r <;> simp [Row.cut, Row.len, cutN] at h ⊢ <;> omega

theorem RowF.append {ρ : Nm} {I : Im} {c : Nat → Option Value} {ek : EK} {r s t : Row} (h : RowF ρ I c ek r) (h' : RowF ρ I (fun j => c (r.len * ek.sz + j)) ek s) (he : r.app s = some t) : RowF ρ I c ek t := by
  unfold Row.app at he
  split at he
  · split at he
    · rename_i hk
      simp at he; subst he; subst hk
      exact ⟨h.1, LF.append (l := _) h.2 h'.2⟩
    · simp at he
  · simp at he; subst he; exact LF.append h h'
  · simp at he; subst he
    have h2 : RowF ρ I (fun j => c (0 * ek.sz + j)) ek (.vs _) := h'
    simpa using h2
  · simp at he; subst he
    refine LF.append (LF.ds_vs h) ?_
    have h2 : LF (fun j => c ((Row.ds _).len * ek.sz + j)) ek.sz (vsS ρ I ek) _ := h'
    simpa only [dsV, Row.len, List.length_map] using h2
  · simp at he; subst he
    exact LF.append h (LF.ds_vs h')
  · simp at he; subst he; exact LF.append h h'
  · simp at he

theorem RowF.cut {ρ : Nm} {I : Im} {c : Nat → Option Value} {ek : EK} {r : Row} (h : RowF ρ I c ek r) (lo len : Nat) : RowF ρ I (fun j => c (lo * ek.sz + j)) ek (r.cut lo len) := by
  cases r with
  | is k l => exact ⟨h.1, h.2.cut lo len⟩
  | ds l => exact LF.cut h lo len
  | vs l => exact LF.cut h lo len

theorem in_row {i j n sz : Nat} (hi : i < n) (hj : j < sz) : i * sz + j < n * sz := by
  have : (i + 1) * sz ≤ n * sz := Nat.mul_le_mul_right _ (by omega)
  rw [Nat.succ_mul] at this
  omega

theorem RowF.congr {ρ ρ' : Nm} {I I' : Im} {c c' : Nat → Option Value} {ek : EK} {r : Row} (hρ : ExtN ρ ρ') (hI : ExtI I I') (hc : ∀ j y, j < r.len * ek.sz → c j = some y → c' j = some y) (h : RowF ρ I c ek r) : RowF ρ' I' c' ek r := by
  cases r with
  | is k l =>
    obtain ⟨h1, h2⟩ := h
    refine ⟨h1, h2.congr fun i e he hs => ?_⟩
    subst h1
    exact hc _ _ (in_row (getElem?_range he) (by simp)) hs
  | ds l =>
    refine LF.congr h fun i e he hs => ⟨hs.1, fun j x ex => ?_⟩
    obtain ⟨h1, y, hy, hr⟩ := hs.2 j x ex
    exact ⟨h1, y, hc _ _ (in_row (getElem?_range he) (by rw [← hs.1.1, D.nc_cells]; exact getElem?_range ex)) hy, hr.mono hI⟩
  | vs l =>
    refine LF.congr h fun i e he hs => ⟨hs.1, fun j x ex => ?_⟩
    obtain ⟨h1, y, hy, hr⟩ := hs.2 j x ex
    exact ⟨h1, y, hc _ _ (in_row (getElem?_range he) (by rw [← hs.1.1, V.nc_cells]; exact getElem?_range ex)) hy, hr.mono hρ hI⟩

theorem RowF.full {ρ : Nm} {I : Im} {c : Nat → Option Value} {ek : EK} {r : Row} (h : RowF ρ I c ek r) (j : Nat) (hj : j < r.len * ek.sz) : ∃ y, c j = some y ∧ y.oneCell' = true := by
  have hsz : 0 < ek.sz := by
    rcases Nat.eq_zero_or_pos ek.sz with h0 | h0
    · rw [h0] at hj; simp at hj
    · exact h0
  have hi : j / ek.sz < r.len := Nat.div_lt_of_lt_mul (by rwa [Nat.mul_comm] at hj)
  have hm : j % ek.sz < ek.sz := Nat.mod_lt _ hsz
  have e : j / ek.sz * ek.sz + j % ek.sz = j := by rw [Nat.mul_comm]; exact Nat.div_add_mod j ek.sz
  cases r with
  | is k l =>
    obtain ⟨h1, h2⟩ := h
    have := h2 (j / ek.sz) l[j / ek.sz] (List.getElem?_eq_getElem hi)
    subst h1
    simp only [isS, Nat.div_one, Nat.mul_one, Nat.add_zero] at this
    exact ⟨_, this, rfl⟩
  | ds l =>
    obtain ⟨h1, h2⟩ := h (j / ek.sz) l[j / ek.sz] (List.getElem?_eq_getElem hi)
    have hl : j % ek.sz < (l[j / ek.sz]).cells.length := by rw [← D.nc_cells, h1.1]; exact hm
    obtain ⟨a1, y, a2, a3⟩ := h2 (j % ek.sz) _ (List.getElem?_eq_getElem hl)
    simp only [e] at a2
    exact ⟨y, a2, (a3.notAgg a1).2.2⟩
  | vs l =>
    obtain ⟨h1, h2⟩ := h (j / ek.sz) l[j / ek.sz] (List.getElem?_eq_getElem hi)
    have hl : j % ek.sz < (l[j / ek.sz]).cells.length := by rw [← V.nc_cells, h1.1]; exact hm
    obtain ⟨a1, y, a2, a3⟩ := h2 (j % ek.sz) _ (List.getElem?_eq_getElem hl)
    simp only [e] at a2
    exact ⟨y, a2, (a3.notAgg a1).2.2⟩

/-- the cells of a row as a list. -/
theorem RowF.list {ρ : Nm} {I : Im} {c : Nat → Option Value} {ek : EK} {r : Row} (h : RowF ρ I c ek r) :
    ∃ cs : List Value, cs.length = r.len * ek.sz ∧ (∀ j, j < r.len * ek.sz → c j = cs[j]?) ∧ (∀ x, x ∈ cs → x.oneCell' = true) ∧ RowF ρ I (fun j => cs[j]?) ek r := by
  let cs : List Value := (List.range (r.len * ek.sz)).map fun j => (c j).getD default
  have hl : cs.length = r.len * ek.sz := by simp [cs]
  have hg : ∀ j, j < r.len * ek.sz → c j = cs[j]? := fun j hj => by
    obtain ⟨y, hy, _⟩ := h.full j hj
    simp [cs, hj, hy]
  refine ⟨cs, hl, hg, fun x hx => ?_, h.congr (ExtN.refl _) (ExtI.refl _) fun j y hj hy => by rw [← hg j hj]; exact hy⟩
  simp only [cs, List.mem_map, List.mem_range] at hx
  obtain ⟨j, hj, rfl⟩ := hx
  obtain ⟨y, hy, ho⟩ := h.full j hj
  simp [hy, ho]

/-- a slice value and its elements. -/
structure SlR (ρ : Nm) (I : Im) (w : World) (ek : EK) (r : Row) (c : Value) (a : Option Addr) (cap b o : Nat) : Prop where
  val : c = .slice a r.len cap
  le : r.len ≤ cap
  nil : a = none → cap = 0
  at_ : ∀ ad, a = some ad → r.len * ek.sz ≠ 0 → ad = ⟨b, o, none⟩
  row : RowF ρ I (fun j => cellAt w b (o + j)) ek r

theorem intsOf_spec {ik : IntKind} : ∀ {l : List V} {xs : List Int}, intsOf ik l = some xs → l = xs.map fun n => .d (.int ik n)
  | [], xs, h => by simp [intsOf] at h; subst h; rfl
  | v :: l, xs, h => by
    cases v with
    | d x =>
      cases x with
      | int k n =>
        unfold intsOf at h
        split at h
        · rename_i hk
          subst hk
          split at h
          · rename_i ys hys
            simp at h; subst h
            simp [intsOf_spec hys]
          · simp at h
        · simp at h
      | _ => simp [intsOf] at h
    | _ => simp [intsOf] at h

/-- values of a kind, laid out one after the other, as a row. -/
theorem rowOf_spec {ρ : Nm} {I : Im} {tk : TK} {l : List V} {r : Row} {c : Nat → Option Value} (h : rowOf tk l = some r) (hl : LF c tk.ek.sz (vsS ρ I tk.ek) l) :
    r.len = l.length ∧ RowF ρ I c tk.ek r := by
  have gen : ∀ r, (match V.allD l with | some l => some (Row.ds l) | none => some (Row.vs l)) = some r → r.len = l.length ∧ RowF ρ I c tk.ek r := by
    clear h
    intro r h
    split at h
    · rename_i xs hxs
      obtain rfl := allD_map hxs
      simp at h; subst h
      refine ⟨by simp [Row.len], fun i e he => ?_⟩
      obtain ⟨h1, h2⟩ := hl i (.d e) (by simp [he])
      refine ⟨h1, fun j x ex => ?_⟩
      obtain ⟨a1, y, a2, a3⟩ := h2 j (.d x) (by simp [V.cells, ex])
      cases a3 with | d _ _ a3 => exact ⟨by simpa [V.isCell] using a1, y, a2, a3⟩
    · simp at h; subst h; exact ⟨rfl, hl⟩
  cases tk with
  | int ik =>
    simp only [rowOf] at h
    split at h
    · rename_i xs hxs
      obtain rfl := intsOf_spec hxs
      simp at h; subst h
      refine ⟨by simp [Row.len], rfl, fun i e he => ?_⟩
      obtain ⟨h1, h2⟩ := hl i (.d (.int ik e)) (by simp [he])
      obtain ⟨a1, y, a2, a3⟩ := h2 0 (.d (.int ik e)) rfl
      cases a3 with | d _ _ a3 => cases a3; exact a2
    · simp at h
  | _ => exact gen r h

theorem ints_spec {ik : IntKind} {y : D} {l : List Int} (h : y.ints ik = some l) : (∃ cap, y = .is ik l cap) ∨ (y = .nils ∧ l = []) := by
  unfold D.ints at h
  split at h
  · split at h
    · rename_i hk; simp at h; subst h; subst hk; exact .inl ⟨_, rfl⟩
    · simp at h
  · simp at h; exact .inr ⟨rfl, h⟩
  · simp at h

theorem elems_spec {ek : EK} {y : D} {l : List D} (h : y.elems ek = some l) : (∃ cap, y = .sl ek l cap) ∨ (y = .nils ∧ l = []) := by
  unfold D.elems at h
  split at h
  · split at h
    · rename_i hk; simp at h; subst h; subst hk; exact .inl ⟨_, rfl⟩
    · simp at h
  · simp at h; exact .inr ⟨rfl, h⟩
  · simp at h

theorem lf_is {ρ : Nm} {I : Im} {m : Mem} {w : World} (hm : MemR ρ I m w) {k : IntKind} {l : List Int} {a : Addr}
    (h : ∀ (i : Nat) (n : Int), l[i]? = some n → a.spot = none ∧ I a.block (a.off + i) = some (.int k n)) :
    RowF ρ I (fun j => cellAt w a.block (a.off + j)) ⟨false, 1⟩ (.is k l) := by
  refine ⟨rfl, fun i n e => ?_⟩
  have := hm.imm _ _ _ (h i n e).2
  simpa [isS] using this

theorem lf_sl {ρ : Nm} {I : Im} {m : Mem} {w : World} (hm : MemR ρ I m w) {ek : EK} {es : List D} {a : Addr} {y : Nat → Nat → Value}
    (h1 : ∀ (i : Nat) (e : D), es[i]? = some e → EOk ek e)
    (h2 : ∀ (i : Nat) (e : D) (j : Nat) (x : D), es[i]? = some e → e.cells[j]? = some x → a.spot = none ∧ x.isAgg = false ∧ I a.block (a.off + (i * ek.sz + j)) = some (y i j))
    (h3 : ∀ (i : Nat) (e : D) (j : Nat) (x : D), es[i]? = some e → e.cells[j]? = some x → RD I x (y i j)) :
    RowF ρ I (fun j => cellAt w a.block (a.off + j)) ek (.ds es) := by
  intro i e he
  refine ⟨h1 i e he, fun j x ex => ⟨(h2 i e j x he ex).2.1, y i j, ?_, h3 i e j x he ex⟩⟩
  exact hm.imm _ _ _ (h2 i e j x he ex).2.2

theorem TK.ek_notAgg {tk : TK} (h : ∀ sz, tk ≠ .agg sz) : tk.ek = ⟨false, 1⟩ := by cases tk <;> first | rfl | (exact absurd rfl (h _))

theorem elemsC_sound {tk : TK} {m : Mem} {v : V} {k : Row → Option R} {r : R} (h : elemsC tk m v k = some r) :
    ∃ rw_, k rw_ = some r ∧ ∀ ρ I (c : Value) (w : World), MemR ρ I m w → RV ρ I v c → ∃ a cap b o, SlR ρ I w tk.ek rw_ c a cap b o := by
  unfold elemsC at h
  split at h
  · rename_i n
    split at h
    · rename_i ek rw_ cap frz hg
      cases he : EK.beq ek tk.ek with
      | false => simp [he] at h
      | true =>
        rw [he, cond_true] at h
        obtain rfl := EK.beq_eq he
        refine ⟨rw_, h, fun ρ I c w hm hv => ?_⟩
        obtain ⟨g, hρ, h1, h2, h3, h4, h5, h6, h7, h8⟩ := hm.blk n _ hg
        cases hv with | own _ g' hg' =>
        obtain rfl : g' = g := by rw [hρ] at hg'; simpa using hg'.symm
        exact ⟨_, _, g'.b, g'.o, by rw [h2], by omega, by simp, by intro ad e _; simp at e; exact e.symm, rowR_iff.1 h6⟩
    · simp at h
  · rename_i n lo len cp
    split at h
    · rename_i ek rw_ cap frz hg
      cases he : EK.beq ek tk.ek with
      | false => simp [he] at h
      | true =>
        rw [he, cond_true] at h
        obtain rfl := EK.beq_eq he
        split at h
        · rename_i hle
          refine ⟨_, h, fun ρ I c w hm hv => ?_⟩
          obtain ⟨g, hρ, h1, h2, h3, h4, h5, h6, h7, h8⟩ := hm.blk n _ hg
          cases hv with | osl _ _ _ _ g' ad c hg' a1 a2 a3 a4 a5 a6 =>
          obtain rfl : g' = g := by rw [hρ] at hg'; simpa using hg'.symm
          have hlen := Row.cut_len rw_ lo len hle
          refine ⟨_, _, g'.b, g'.o + lo * g'.sz, by rw [hlen], by omega, by simp, ?_, ?_⟩
          · intro ad' e hn; simp at e; subst e; exact a3 (by rintro rfl; rw [hlen, show len = 0 by omega] at hn; simp at hn)
          · have := (rowR_iff.1 h6).cut lo len
            rw [h1]
            simpa only [Nat.add_assoc] using this
        · simp at h
    · simp at h
  · rename_i y
    split at h
    · rename_i ik
      simp only [Option.bind_eq_some_iff] at h
      obtain ⟨l, hl, hk⟩ := h
      refine ⟨_, hk, fun ρ I c w hm hv => ?_⟩
      cases hv with | d _ _ hv =>
      rcases ints_spec hl with ⟨cap, rfl⟩ | ⟨rfl, rfl⟩
      · cases hv with | is _ _ _ a c h1 h2 h3 =>
        refine ⟨_, _, a.block, a.off, rfl, h1, by simp, ?_, lf_is hm h3⟩
        intro ad e hn
        simp at e; subst e
        have h0 : 0 < l.length := Nat.pos_of_ne_zero fun e => by simp only [Row.len, e] at hn; simp at hn
        have := (h3 0 l[0] (by simp [h0])).1
        cases a; simp at this ⊢; exact this
      · cases hv
        exact ⟨none, 0, 0, 0, rfl, Nat.le_refl _, by simp, by simp, rfl, by intro i e he; simp at he⟩
    · rename_i hni
      simp only [Option.bind_eq_some_iff] at h
      obtain ⟨l, hl, hk⟩ := h
      refine ⟨_, hk, fun ρ I c w hm hv => ?_⟩
      cases hv with | d _ _ hv =>
      rcases elems_spec hl with ⟨cap, rfl⟩ | ⟨rfl, rfl⟩
      · cases hv with | sl _ _ _ a c y h1 h2 h3 h4 h5 =>
        refine ⟨_, _, a.block, a.off, rfl, h1, by simp, ?_, lf_sl hm h3 h4 h5⟩
        intro ad e hn
        simp at e; subst e
        simp only [Row.len] at hn
        have hz : 0 < l.length := Nat.pos_of_ne_zero fun e => by rw [e] at hn; simp at hn
        have hs : 0 < tk.ek.sz := Nat.pos_of_ne_zero fun e => by rw [e] at hn; simp at hn
        have e0 : l[0]? = some l[0] := List.getElem?_eq_getElem hz
        have hc : 0 < l[0].cells.length := by rw [← D.nc_cells, (h3 0 _ e0).1]; exact hs
        have := (h4 0 _ 0 _ e0 (List.getElem?_eq_getElem hc)).1
        cases a; simp at this ⊢; exact this
      · cases hv
        exact ⟨none, 0, 0, 0, rfl, Nat.le_refl _, by simp, by simp, by intro i e he; simp at he⟩
  · rename_i n off len
    split at h
    · rename_i ek c hg
      split at h
      · rename_i rw_ hr
        have main : (∀ sz, tk ≠ .agg sz) → off + len ≤ c.cells.length → k rw_ = some r → ∃ rw_, k rw_ = some r ∧ ∀ ρ I (c : Value) (w : World), MemR ρ I m w → RV ρ I (.view n off len) c → ∃ a cap b o, SlR ρ I w tk.ek rw_ c a cap b o := by
          intro hna hle hk
          refine ⟨rw_, hk, fun ρ I c' w hm hv => ?_⟩
          obtain ⟨g, hρ, h1, h2, h3, h5, h6, h7⟩ := hm.blk n _ hg
          cases hv with | view _ _ _ g' ad cp hg' a1 a2 =>
          obtain rfl : g' = g := by rw [hρ] at hg'; simpa using hg'.symm
          have hek := TK.ek_notAgg hna
          have hlf : LF (fun j => cellAt w g'.b (g'.o + off + j)) tk.ek.sz (vsS ρ I tk.ek) (cutN c.cells off len) := by
            intro i e he
            unfold cutN at he
            rw [List.getElem?_take] at he
            split at he
            · rw [List.getElem?_drop] at he
              obtain ⟨b1, y, b2, b3⟩ := h5 _ e he
              obtain ⟨c1, c2, c3⟩ := V.cells_isCell b1
              refine ⟨⟨by rw [c3, hek], by rw [c2, hek]⟩, fun j x ex => ?_⟩
              rw [c1] at ex
              cases j with
              | zero =>
                simp at ex; subst ex
                refine ⟨b1, y, ?_, b3⟩
                rw [hek, h1]
                simpa using b2
              | succ j => simp at ex
            · simp at he
          obtain ⟨d1, d2⟩ := rowOf_spec hr hlf
          have hl : rw_.len = len := by rw [d1]; simp [cutN]; omega
          refine ⟨_, _, g'.b, g'.o + off, by rw [hl], by omega, by simp, ?_, d2⟩
          intro ad' e hn; simp at e; subst e
          exact a2 (by rintro rfl; rw [hl, show len = 0 by omega] at hn; simp at hn)
        cases tk with
        | agg sz => simp at h
        | _ =>
          simp only at h
          split at h
          · rename_i hle
            exact main (by simp) hle h
          · simp at h
      · simp at h
    · simp at h
  · simp at h

end Go.Ab
