/- Binary operations, conversions, cells. -/
import Derived.Test.YtecfekfenhacpaaGreatAbOps3
namespace Go.Ab
open Go
set_option linter.unusedVariables false
set_option linter.unusedSimpArgs false
variable {R : Type} {P : Program}

theorem eqGuard_int (op : BinOp) (t : TypeId) (ox oy : Operand) (k k' : IntKind) (a b : Int) (w : World) : (eqGuard op t ox oy (.int k a) (.int k' b)).run P w = .ok () w := by
  unfold eqGuard; cases op <;> simp
theorem eqGuard_string (op : BinOp) (t : TypeId) (ox oy : Operand) (a b : ByteArray) (w : World) : (eqGuard op t ox oy (.string a) (.string b)).run P w = .ok () w := by
  unfold eqGuard; cases op <;> simp

theorem binC_sound {op : BinOp} {t : TypeId} {ox oy : Operand} {x y : V} {k : V → Option R} {r : R} (h : binC P op t (isConst ox || isConst oy) x y k = some r) :
    ∃ v, k v = some r ∧ ∀ ρ I (cx cy : Value) (w : World), RV ρ I x cx → RV ρ I y cy →
      ∃ c, (do eqGuard op t ox oy cx cy; binOp op t cx cy : Sem Value).run P w = .ok c w ∧ RV ρ I v c := by
  unfold binC at h
  split at h
  · obtain ⟨x, hk, hx⟩ := intOp_sound h
    refine ⟨_, hk, fun ρ I cx cy w rx ry => ?_⟩
    cases rx with | d _ _ rx => cases rx; cases ry with | d _ _ ry => cases ry; exact
      let ⟨c, h1, h2⟩ := hx I P t w
      ⟨c, by simp [eqGuard_int, h1], .d _ _ h2⟩
  · obtain ⟨x, hk, hx⟩ := strOp_sound h
    refine ⟨_, hk, fun ρ I cx cy w rx ry => ?_⟩
    cases rx with | d _ _ rx => cases rx; cases ry with | d _ _ ry => cases ry; exact
      let ⟨c, h1, h2⟩ := hx I P t w
      ⟨c, by simp [eqGuard_string, h1], .d _ _ h2⟩
  · split at h
    · simp only [Option.bind_eq_some_iff] at h
      obtain ⟨b, hb, hk⟩ := h
      refine ⟨_, hk, fun ρ I cx cy w rx ry => ⟨.bool b, ?_, .d _ _ (.bool b)⟩⟩
      obtain ⟨h1, h2, h3, h4, h5, h6⟩ := eqV_sound hb rx ry w .eql (.inl rfl)
      simp [h1, (binOp_eql_run h3 h4 h5 h6 w).1, h2]
    · simp only [Option.bind_eq_some_iff] at h
      obtain ⟨b, hb, hk⟩ := h
      refine ⟨_, hk, fun ρ I cx cy w rx ry => ⟨.bool (!b), ?_, .d _ _ (.bool _)⟩⟩
      obtain ⟨h1, h2, h3, h4, h5, h6⟩ := eqV_sound hb rx ry w .neq (.inr rfl)
      simp [h1, (binOp_eql_run h3 h4 h5 h6 w).2, h2]
    · simp at h

/-! ### cells of data -/

theorem D.cell_cells {x y : D} {off : Nat} (h : x.cell off = some y) : x.cells[off]? = some y := by
  unfold D.cell at h
  split at h
  · exact h
  · rename_i hx
    cases hb : Nat.beq off 0 with
    | false => simp [hb] at h
    | true =>
      have : off = 0 := beq_true.1 hb
      subst this
      simp [hb] at h; subst h
      cases x <;> first | rfl | (exact absurd rfl (hx _))

/-- cells of a value that a function tells. -/
def CellsD (I : Im) (c : Nat → Option Value) (x : D) : Prop := ∀ (j : Nat) (u : D), x.cells[j]? = some u → ∃ y, c j = some y ∧ RD I u y
def CellsV (ρ : Nm) (I : Im) (c : Nat → Option Value) (v : V) : Prop := ∀ (j : Nat) (u : V), v.cells[j]? = some u → ∃ y, c j = some y ∧ RV ρ I u y

/-- what lies at a place reads as a value of a kind. -/
def LoadR (ρ : Nm) (I : Im) (tk : TK) (c : Nat → Option Value) (off : Nat) (u : V) : Prop :=
  match tk with
  | .agg sz => ∃ arr : Array Value, arr.size = sz ∧ (∀ j, j < sz → c (off + j) = arr[j]?) ∧ RV ρ I u (.agg arr)
  | _ => ∃ y, c off = some y ∧ RV ρ I u y

theorem cellsD_agg {I : Im} {c : Nat → Option Value} {cs : List D} (h : ∀ (j : Nat) (u : D), cs[j]? = some u → u.isAgg = false ∧ ∃ y, c j = some y ∧ RD I u y) :
    ∃ arr : Array Value, arr.size = cs.length ∧ (∀ j, j < cs.length → c j = arr[j]?) ∧ RD I (.agg cs) (.agg arr) := by
  have key : ∀ j, j < cs.length → ∃ y, c j = some y := fun j hj => by
    obtain ⟨_, y, hy, _⟩ := h j cs[j] (by simp [hj])
    exact ⟨y, hy⟩
  let arr : Array Value := (Array.range cs.length).map fun j => (c j).getD default
  have hs : arr.size = cs.length := by simp [arr]
  have hget : ∀ j, j < cs.length → c j = arr[j]? := fun j hj => by
    obtain ⟨y, hy⟩ := key j hj
    simp [arr, hj, hy]
  refine ⟨arr, hs, hget, .agg cs arr hs.symm (fun j x e => (h j x e).1) fun j x y e ey => ?_⟩
  have hj : j < cs.length := (List.getElem?_eq_some_iff.1 e).1
  obtain ⟨_, y', hy', hr⟩ := h j x e
  rw [hget j hj, ey] at hy'
  simp at hy'; subst hy'; exact hr

theorem cellsV_agg {ρ : Nm} {I : Im} {c : Nat → Option Value} {cs : List V} (h : ∀ (j : Nat) (u : V), cs[j]? = some u → u.isCell = true ∧ ∃ y, c j = some y ∧ RV ρ I u y) :
    ∃ arr : Array Value, arr.size = cs.length ∧ (∀ j, j < cs.length → c j = arr[j]?) ∧ RV ρ I (.agg cs) (.agg arr) := by
  have key : ∀ j, j < cs.length → ∃ y, c j = some y := fun j hj => by
    obtain ⟨_, y, hy, _⟩ := h j cs[j] (by simp [hj])
    exact ⟨y, hy⟩
  let arr : Array Value := (Array.range cs.length).map fun j => (c j).getD default
  have hs : arr.size = cs.length := by simp [arr]
  have hget : ∀ j, j < cs.length → c j = arr[j]? := fun j hj => by
    obtain ⟨y, hy⟩ := key j hj
    simp [arr, hj, hy]
  refine ⟨arr, hs, hget, .agg cs arr hs.symm (fun j x e => (h j x e).1) fun j x y e ey => ?_⟩
  have hj : j < cs.length := (List.getElem?_eq_some_iff.1 e).1
  obtain ⟨_, y', hy', hr⟩ := h j x e
  rw [hget j hj, ey] at hy'
  simp at hy'; subst hy'; exact hr

theorem allD_map : ∀ {cs : List V} {l : List D}, V.allD cs = some l → cs = l.map .d
  | [], l, h => by simp [V.allD] at h; subst h; rfl
  | v :: cs, l, h => by
    cases v <;> simp only [V.allD] at h <;> try (simp at h; done)
    split at h
    · rename_i x xs hxs
      simp at h; subst h
      simp [allD_map hxs]
    · simp at h

/-- mkAgg is the struct of its cells. -/
theorem mkAgg_sound {ρ : Nm} {I : Im} {cs : List V} {arr : Array Value} (h : RV ρ I (.agg cs) (.agg arr)) : RV ρ I (mkAgg cs) (.agg arr) := by
  unfold mkAgg
  split
  · rename_i l hl
    obtain rfl := allD_map hl
    cases h with
    | agg _ _ h1 h2 h3 =>
      refine .d _ _ (.agg l arr (by simpa using h1) (fun j x e => ?_) fun j x y e ey => ?_)
      · simpa [V.isCell] using h2 j (.d x) (by simp [e])
      · have := h3 j (.d x) y (by simp [e]) ey
        cases this with | d _ _ h => exact h
  · exact h

theorem loadD_sound {tk : TK} {whole : Bool} {x : D} {off : Nat} {k : V → Option R} {r : R} (h : loadD tk whole x off k = some r) :
    ∃ u, k u = some r ∧ u.sto = true ∧ ∀ ρ I (c : Nat → Option Value), (∀ sz, tk = .agg sz → whole = true → off = 0 ∧ x.nc = sz ∧ x.isAgg = true) → CellsD I c x → (∀ (j : Nat) (u : D), x.cells[j]? = some u → u.isAgg = false) → LoadR ρ I tk c off u := by
  have scalar : ∀ (y : D), x.cell off = some y → (∀ sz, tk ≠ .agg sz) → ∀ ρ I (c : Nat → Option Value), CellsD I c x → LoadR ρ I tk c off (.d y) := by
    intro y hy ht ρ I c hc
    obtain ⟨z, hz, hr⟩ := hc off y (D.cell_cells hy)
    unfold LoadR
    split
    · rename_i sz; exact absurd rfl (ht sz)
    · exact ⟨z, hz, .d _ _ hr⟩
  unfold loadD at h
  split at h
  · rename_i ik
    simp only [Option.bind_eq_some_iff] at h
    obtain ⟨n, hn, hk⟩ := h
    refine ⟨_, hk, rfl, fun ρ I c _ hc _ => scalar _ ?_ (by simp) ρ I c hc⟩
    unfold D.cellInt at hn
    split at hn
    · split at hn
      · rename_i he; simp at hn; subst hn; subst he; assumption
      · simp at hn
    · simp at hn
  · simp only [Option.bind_eq_some_iff] at h
    obtain ⟨n, hn, hk⟩ := h
    refine ⟨_, hk, rfl, fun ρ I c _ hc _ => scalar _ ?_ (by simp) ρ I c hc⟩
    unfold D.cellBool at hn
    split at hn <;> simp at hn; subst hn; assumption
  · simp only [Option.bind_eq_some_iff] at h
    obtain ⟨n, hn, hk⟩ := h
    refine ⟨_, hk, rfl, fun ρ I c _ hc _ => scalar _ ?_ (by simp) ρ I c hc⟩
    unfold D.cellStr at hn
    split at hn <;> simp at hn; subst hn; assumption
  · rename_i sz
    split at h
    · refine ⟨_, h, rfl, fun ρ I c hw hc hcell => ?_⟩
      obtain ⟨h0, hnc, hag⟩ := hw sz rfl rfl
      subst h0
      cases x <;> simp [D.isAgg] at hag
      rename_i cs
      obtain ⟨arr, h1, h2, h3⟩ := cellsD_agg (I := I) (c := c) (cs := cs) fun j u e => ⟨hcell j u e, hc j u e⟩
      simp [D.nc] at hnc
      exact ⟨arr, by omega, fun j hj => by rw [Nat.zero_add]; exact h2 j (by omega), .d _ _ h3⟩
    · simp only [Option.bind_eq_some_iff] at h
      obtain ⟨l, hl, hk⟩ := h
      refine ⟨_, hk, rfl, fun ρ I c hw0 hc hcell => ?_⟩
      unfold D.sub at hl
      split at hl
      · rename_i cs
        split at hl
        · rename_i hle
          simp at hl; subst hl
          have hlen : ((cs.drop off).take sz).length = sz := by simp; omega
          obtain ⟨arr, h1, h2, h3⟩ := cellsD_agg (I := I) (c := fun j => c (off + j)) (cs := (cs.drop off).take sz) fun j u e => by
            have e' : cs[off + j]? = some u := by
              rw [List.getElem?_take] at e
              split at e
              · rwa [List.getElem?_drop] at e
              · simp at e
            exact ⟨hcell _ u e', hc _ u e'⟩
          exact ⟨arr, by omega, fun j hj => h2 j (by omega), .d _ _ h3⟩
        · simp at hl
      · simp at hl
  · simp only [Option.bind_eq_some_iff] at h
    obtain ⟨y, hy, hk⟩ := h
    exact ⟨_, hk, rfl, fun ρ I c _ hc _ => scalar _ hy (by simp) ρ I c hc⟩

theorem isOther_eq {tk : TK} (h : isOther tk = true) : tk = .other := by cases tk <;> simp [isOther] at h; rfl

theorem loadV_sound {tk : TK} {whole : Bool} {v : V} {off : Nat} {k : V → Option R} {r : R} (h : loadV tk whole v off k = some r) :
    ∃ u, k u = some r ∧ ∀ ρ I (c : Nat → Option Value), (∀ sz, tk = .agg sz → whole = true → off = 0 ∧ v.nc = sz ∧ v.isAgg = true) → CellsV ρ I c v → (∀ (j : Nat) (u : V), v.cells[j]? = some u → u.isCell = true) → u.sto = true ∧ LoadR ρ I tk c off u := by
  unfold loadV at h
  split at h
  · rename_i x
    obtain ⟨u, hk, hs, hl⟩ := loadD_sound h
    refine ⟨u, hk, fun ρ I c hw hc hcell => ⟨hs, hl ρ I c (fun sz h1 h2 => by simpa [V.nc, V.isAgg] using hw sz h1 h2) (fun j u e => ?_) (fun j u e => ?_)⟩⟩
    · obtain ⟨y, hy, hr⟩ := hc j (.d u) (by simp [V.cells, e])
      cases hr with | d _ _ hr => exact ⟨y, hy, hr⟩
    · simpa [V.isCell] using hcell j (.d u) (by simp [V.cells, e])
  · rename_i cs
    split at h
    · rename_i sz
      split at h
      · refine ⟨_, h, fun ρ I c hw hc hcell => ⟨rfl, ?_⟩⟩
        obtain ⟨h0, hnc, hag⟩ := hw sz rfl rfl
        subst h0
        obtain ⟨arr, h1, h2, h3⟩ := cellsV_agg (ρ := ρ) (I := I) (c := c) (cs := cs) fun j u e => ⟨hcell j u e, hc j u e⟩
        simp [V.nc] at hnc
        exact ⟨arr, by omega, fun j hj => by rw [Nat.zero_add]; exact h2 j (by omega), h3⟩
      · split at h
        · rename_i hle
          refine ⟨_, h, fun ρ I c _ hc hcell => ⟨by unfold mkAgg; split <;> rfl, ?_⟩⟩
          have hlen : ((cs.drop off).take sz).length = sz := by simp; omega
          obtain ⟨arr, h1, h2, h3⟩ := cellsV_agg (ρ := ρ) (I := I) (c := fun j => c (off + j)) (cs := (cs.drop off).take sz) fun j u e => by
            have e' : cs[off + j]? = some u := by
              rw [List.getElem?_take] at e
              split at e
              · rwa [List.getElem?_drop] at e
              · simp at e
            exact ⟨hcell _ u e', hc _ u e'⟩
          exact ⟨arr, by omega, fun j hj => h2 j (by omega), mkAgg_sound h3⟩
        · simp at h
    · rename_i htk
      split at h
      · rename_i x hx
        obtain ⟨u, hk, hs, hl⟩ := loadD_sound h
        refine ⟨u, hk, fun ρ I c _ hc hcell => ⟨hs, ?_⟩⟩
        obtain ⟨y, hy, hr⟩ := hc off (.d x) hx
        have hxa : x.isAgg = false := by simpa [V.isCell] using hcell off (.d x) hx
        cases hr with
        | d _ _ hr =>
          have := hl ρ I (fun j => if j = 0 then some y else none) (fun sz h1 h2 => by simp at h2) (fun j z e => by
            rw [D.cells_of_notAgg hxa] at e
            cases j with
            | zero => simp at e; subst e; exact ⟨y, rfl, hr⟩
            | succ j => simp at e) (fun j z e => by
            rw [D.cells_of_notAgg hxa] at e
            cases j with
            | zero => simp at e; subst e; exact hxa
            | succ j => simp at e)
          unfold LoadR at this ⊢
          split at this
          · exact absurd rfl (htk _)
          · obtain ⟨z, hz, hr⟩ := this
            simp at hz; subst hz
            exact ⟨y, hy, hr⟩
      · rename_i y hnd hx
        cases ho : isOther tk with
        | false => simp [ho] at h
        | true =>
          simp [ho] at h
          obtain rfl := isOther_eq ho
          refine ⟨y, h, fun ρ I c _ hc hcell => ?_⟩
          obtain ⟨z, hz, hr⟩ := hc off y hx
          have hyc := hcell off y hx
          exact ⟨by cases y <;> simp [V.isCell] at hyc <;> rfl, z, hz, hr⟩
      · simp at h
  · rename_i hnd hna
    cases ho : (isOther tk && Nat.beq off 0) with
    | false => rw [ho] at h; simp at h
    | true =>
      rw [ho] at h; simp at h
      rw [Bool.and_eq_true] at ho
      obtain rfl := isOther_eq ho.1
      have h0 : off = 0 := beq_true.1 ho.2
      subst h0
      refine ⟨v, h, fun ρ I c _ hc hcell => ?_⟩
      have hv : v.cells[0]? = some v := by cases v <;> first | rfl | (exact absurd rfl (hnd _)) | (exact absurd rfl (hna _))
      obtain ⟨z, hz, hr⟩ := hc 0 v hv
      have hyc := hcell 0 v hv
      exact ⟨by cases v <;> simp [V.isCell] at hyc <;> rfl, z, hz, hr⟩

end Go.Ab
