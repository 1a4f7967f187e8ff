/- Equality of structs and arrays, cell by cell. -/
import Derived.Test.YtecfekfenhacpaaGreatAbOps1
import Derived.ChangeKeysEq
namespace Go.Ab
open Go
set_option linter.unusedVariables false
set_option linter.unusedSimpArgs false

/-- cells that lie in an array from a place on. -/
def CR (I : Im) (l : List D) (arr : Array Value) (o : Nat) : Prop := ∀ (j : Nat) (x : D), l[j]? = some x → x.isAgg = false ∧ ∃ y, arr[o + j]? = some y ∧ RD I x y

theorem CR.take {I : Im} {l : List D} {arr : Array Value} {o n : Nat} (h : CR I l arr o) : CR I (l.take n) arr o := fun j x e => by
  rw [List.getElem?_take] at e
  split at e
  · exact h j x e
  · simp at e

theorem CR.drop {I : Im} {l : List D} {arr : Array Value} {o n : Nat} (h : CR I l arr o) : CR I (l.drop n) arr (o + n) := fun j x e => by
  rw [List.getElem?_drop] at e
  have := h _ x e
  rwa [← Nat.add_assoc] at this

theorem CR.extract {I : Im} {l : List D} {arr : Array Value} {o n : Nat} (h : CR I l arr o) (hn : l.length ≤ n) : CR I l (arr.extract o (o + n)) 0 := fun j x e => by
  obtain ⟨h1, y, hy, hr⟩ := h j x e
  refine ⟨h1, y, ?_, hr⟩
  have hlt : j < l.length := (List.getElem?_eq_some_iff.1 e).1
  have hs : o + j < arr.size := (Array.getElem?_eq_some_iff.1 hy).1
  rw [Array.getElem?_extract]
  rw [if_pos (by omega)]
  rw [← hy]; congr 1; omega

theorem eqCells_append {ks1 ks2 : List TK} : ∀ {xs ys : List D} {b : Bool}, eqCells (ks1 ++ ks2) xs ys = some b →
    ∃ b1 b2, eqCells ks1 (xs.take ks1.length) (ys.take ks1.length) = some b1 ∧ eqCells ks2 (xs.drop ks1.length) (ys.drop ks1.length) = some b2 ∧ b = (b1 && b2) := by
  induction ks1 with
  | nil => intro xs ys b h; exact ⟨true, b, by simp [eqCells], by simpa using h, by simp⟩
  | cons k ks1 ih =>
    intro xs ys b h
    cases xs with
    | nil => simp [eqCells] at h
    | cons x xs =>
      cases ys with
      | nil => simp [eqCells] at h
      | cons y ys =>
        simp only [List.cons_append, eqCells, Option.bind_eq_some_iff] at h
        obtain ⟨a, ha, c, hc, e⟩ := h
        simp at e; subst e
        obtain ⟨b1, b2, h1, h2, rfl⟩ := ih hc
        refine ⟨(a && b1), b2, ?_, by simpa using h2, by simp [Bool.and_assoc]⟩
        simp [eqCells, ha, h1]

theorem eqCells_length : ∀ {ks : List TK} {xs ys : List D} {b : Bool}, eqCells ks xs ys = some b → xs.length = ks.length ∧ ys.length = ks.length
  | [], [], [], _, _ => ⟨rfl, rfl⟩
  | [], [], y :: ys, b, h => by simp [eqCells] at h
  | [], x :: xs, ys, b, h => by simp [eqCells] at h
  | k :: ks, [], ys, b, h => by simp [eqCells] at h
  | k :: ks, x :: xs, [], b, h => by simp [eqCells] at h
  | k :: ks, x :: xs, y :: ys, b, h => by
    simp only [eqCells, Option.bind_eq_some_iff] at h
    obtain ⟨a, ha, c, hc, e⟩ := h
    have := eqCells_length hc
    simp [this.1, this.2]

section
variable {P : Program} {I : Im}

/-- what cellKinds gives for a type says: parts of that type compare as their cells do. -/
def PartEq (P : Program) (I : Im) (t : TypeId) (ks : List TK) (d : Nat) : Prop :=
  ∀ (w : World) (xs ys : Array Value) (o o' : Nat) (l m : List D) (b : Bool), CR I l xs o → CR I m ys o' → eqCells ks l m = some b →
    ks.length = P.cellsOf t → ∃ x y, (part t xs o).run P w = .ok x w ∧ (part t ys o').run P w = .ok y w ∧ (Op.equalIn d t x y).run P w = .ok b w

theorem partEq_scalar {t : TypeId} {td : TypeDesc} (hu : P.underlying t = some td) (hd : (match td with | .struct _ | .array _ _ => true | _ => false) = false)
    {tk : TK} {d : Nat} (heq : ∀ (w : World) (x y : D) (cx cy : Value) (b : Bool), x.isAgg = false → y.isAgg = false → RD I x cx → RD I y cy → eqCell tk x y = some b → (Op.equalIn d t cx cy).run P w = .ok b w) :
    PartEq P I t [tk] d := by
  intro w xs ys o o' l m b hl hm he hc
  obtain ⟨h1, h2⟩ := eqCells_length he
  obtain ⟨x, rfl⟩ := List.length_eq_one_iff.1 h1
  obtain ⟨y, rfl⟩ := List.length_eq_one_iff.1 h2
  obtain ⟨nx, cx, hcx, rx⟩ := hl 0 x rfl
  obtain ⟨ny, cy, hcy, ry⟩ := hm 0 y rfl
  have hag : (isAgg t).run P w = .ok false w := by
    simp only [isAgg, Sem.run_bind, run_underlying hu, Result.andThen_ok]
    cases td <;> first | rfl | (simp at hd)
  simp only [eqCells, Option.bind_eq_some_iff] at he
  obtain ⟨a, ha, c, hcc, e⟩ := he
  simp at hcc e; subst hcc; simp at e; subst e
  refine ⟨cx, cy, ?_, ?_, heq w x y cx cy _ nx ny rx ry ha⟩
  · simp only [part, Sem.run_bind, hag, Result.andThen_ok]; simp at hcx; simp [hcx]
  · simp only [part, Sem.run_bind, hag, Result.andThen_ok]; simp at hcy; simp [hcy]

theorem run_part_agg {t : TypeId} {i : TypeInfo} {td : TypeDesc} (hu : P.underlying t = some td) (hd : (match td with | .struct _ | .array _ _ => true | _ => false) = true)
    (xs : Array Value) (o : Nat) (w : World) : (part t xs o).run P w = .ok (.agg (xs.extract o (o + P.cellsOf t))) w := by
  obtain ⟨i, hi⟩ := info_of_underlying hu
  have hag : (isAgg t).run P w = .ok true w := by
    simp only [isAgg, Sem.run_bind, run_underlying hu, Result.andThen_ok]
    cases td <;> first | rfl | (simp at hd)
  simp only [part, Sem.run_bind, hag, Result.andThen_ok]
  simp [run_sizeOf w hi]

theorem fieldKinds_sound {kinds : TypeId → Option (List TK)} {d : Nat} (hk : ∀ t ks, kinds t = some ks → PartEq P I t ks d) (w : World) (xs ys : Array Value) :
    ∀ (fs : List Field) (off : Nat) (ks : List TK) (l m : List D) (b : Bool), fieldKinds P kinds fs off = some ks → CR I l xs off → CR I m ys off → eqCells ks l m = some b →
      (Op.eqFields d xs ys fs).run P w = .ok b w
  | [], off, ks, l, m, b, h, hl, hm, he => by
    simp [fieldKinds] at h; subst h
    obtain ⟨h1, h2⟩ := eqCells_length he
    simp at h1 h2; subst h1; subst h2
    simp [eqCells] at he; subst he
    simp [Op.eqFields]
  | f :: fs, off, ks, l, m, b, h, hl, hm, he => by
    simp only [fieldKinds] at h
    split at h
    · simp at h
    rename_i hname
    split at h
    · rename_i hoff
      split at h
      · rename_i k1 hk1
        split at h
        · rename_i hlen
          split at h
          · rename_i k2 hk2
            simp at h; subst h
            obtain ⟨b1, b2, h1, h2, rfl⟩ := eqCells_append he
            obtain ⟨x, y, px, py, hxy⟩ := hk _ _ hk1 w xs ys off off _ _ b1 hl.take hm.take h1 hlen
            have ih := fieldKinds_sound hk w xs ys fs (off + k1.length) k2 _ _ b2 hk2 hl.drop hm.drop h2
            simp only [Op.eqFields, ne_eq, hname, not_false_eq_true, if_true, hoff, Sem.run_bind, px, py, hxy, Result.andThen_ok]
            cases b1
            · simp
            · simpa using ih
          · simp at h
        · simp at h
      · simp at h
    · simp at h

theorem eqItems_sound {e : TypeId} {ks : List TK} {d : Nat} (hk : PartEq P I e ks d) (hlen : ks.length = P.cellsOf e) (w : World) (xs ys : Array Value) :
    ∀ (n i : Nat) (l m : List D) (b : Bool), CR I l xs (i * P.cellsOf e) → CR I m ys (i * P.cellsOf e) → eqCells ((List.replicate n ks).flatten) l m = some b →
      (Op.eqItems d e (P.cellsOf e) xs ys (List.range' i n)).run P w = .ok b w
  | 0, i, l, m, b, hl, hm, he => by
    obtain ⟨h1, h2⟩ := eqCells_length he
    simp at h1 h2; subst h1; subst h2
    simp [eqCells] at he; subst he
    simp [Op.eqItems]
  | n + 1, i, l, m, b, hl, hm, he => by
    simp only [List.replicate_succ, List.flatten_cons] at he
    obtain ⟨b1, b2, h1, h2, rfl⟩ := eqCells_append he
    obtain ⟨x, y, px, py, hxy⟩ := hk w xs ys _ _ _ _ b1 hl.take hm.take h1 hlen
    have hl2 := hl.drop (n := ks.length)
    have hm2 := hm.drop (n := ks.length)
    have hi : i * P.cellsOf e + ks.length = (i + 1) * P.cellsOf e := by rw [hlen, Nat.add_mul, Nat.one_mul]
    rw [hi] at hl2 hm2
    have ih := eqItems_sound hk hlen w xs ys n (i + 1) _ _ b2 hl2 hm2 h2
    simp only [List.range'_succ, Op.eqItems, Sem.run_bind, px, py, hxy, Result.andThen_ok]
    cases b1
    · simp
    · simpa using ih

theorem cell_zero {x : D} (hx : x.isAgg = false) : x.cell 0 = some x := by
  cases x <;> first | rfl | (simp [D.isAgg] at hx)

theorem cellInt_zero {k : IntKind} {x : D} {a : Int} (hx : x.isAgg = false) (h : x.cellInt k 0 = some a) : x = .int k a := by
  unfold D.cellInt at h
  rw [cell_zero hx] at h
  split at h
  · rename_i k' n hc
    split at h
    · rename_i hk; simp at h hc; subst h; subst hk; exact hc
    · simp at h
  · simp at h

theorem cellBool_zero {x : D} {a : Bool} (hx : x.isAgg = false) (h : x.cellBool 0 = some a) : x = .bool a := by
  unfold D.cellBool at h
  rw [cell_zero hx] at h
  split at h
  · rename_i b hc; simp at h hc; subst h; exact hc
  · simp at h

theorem cellStr_zero {x : D} {a : List UInt8} (hx : x.isAgg = false) (h : x.cellStr 0 = some a) : x = .str a := by
  unfold D.cellStr at h
  rw [cell_zero hx] at h
  split at h
  · rename_i b hc; simp at h hc; subst h; exact hc
  · simp at h

/-- the cells of an aggregate value. -/
theorem cr_of_rd {cs : List D} {c : Value} (h : RD I (.agg cs) c) : ∃ arr, c = .agg arr ∧ cs.length = arr.size ∧ CR I cs arr 0 := by
  cases h with
  | agg _ arr h1 h2 h3 =>
    refine ⟨arr, rfl, h1, fun j x e => ⟨h2 j x e, ?_⟩⟩
    have hlt : j < arr.size := by rw [← h1]; exact (List.getElem?_eq_some_iff.1 e).1
    exact ⟨arr[j], by simp [hlt], h3 j x _ e (by simp [hlt])⟩

theorem cellKinds_sound : ∀ (n : Nat) (t : TypeId) (ks : List TK) (d : Nat), cellKinds P n t = some ks → n ≤ d → PartEq P I t ks d
  | 0, t, ks, d, h, _ => by simp [cellKinds] at h
  | n + 1, t, ks, 0, h, hd => by omega
  | n + 1, t, ks, d + 1, h, hd => by
    simp only [cellKinds] at h
    split at h
    · rename_i hu
      simp at h; subst h
      refine partEq_scalar hu rfl fun w x y cx cy b nx ny rx ry he => ?_
      simp only [eqCell, Option.bind_eq_some_iff] at he
      obtain ⟨a, ha, c, hc, e⟩ := he
      simp at e; subst e
      obtain rfl := cellBool_zero nx ha
      obtain rfl := cellBool_zero ny hc
      cases rx; cases ry
      exact run_equalIn_bool' w d t _ _ hu
    · rename_i q hu
      simp at h; subst h
      refine partEq_scalar hu rfl fun w x y cx cy b nx ny rx ry he => ?_
      simp only [eqCell, Option.bind_eq_some_iff] at he
      obtain ⟨a, ha, c, hc, e⟩ := he
      simp at e; subst e
      obtain rfl := cellInt_zero nx ha
      obtain rfl := cellInt_zero ny hc
      cases rx; cases ry
      exact run_equalIn_int w d t _ _ _ _ hu
    · rename_i hu
      simp at h; subst h
      refine partEq_scalar hu rfl fun w x y cx cy b nx ny rx ry he => ?_
      simp only [eqCell, Option.bind_eq_some_iff] at he
      obtain ⟨a, ha, c, hc, e⟩ := he
      simp at e; subst e
      obtain rfl := cellStr_zero nx ha
      obtain rfl := cellStr_zero ny hc
      cases rx; cases ry
      rw [run_equalIn_string w d t _ _ hu, toList_mk, toList_mk]
    · rename_i fs hu
      split at h
      · simp at h
      · rename_i hp
        have hp : P.stoodInHeld t = false := by simpa using hp
        have hfs : P.fieldsOf t = fs := by simp [Program.fieldsOf, hu]
        intro w xs ys o o' l m b hl hm he hc
        obtain ⟨i, hi⟩ := info_of_underlying hu
        refine ⟨_, _, run_part_agg (i := i) hu rfl xs o w, run_part_agg (i := i) hu rfl ys o' w, ?_⟩
        rw [run_equalIn_struct w d t _ _ (by rw [hfs]; exact hu) hp, hfs]
        obtain ⟨h1, h2⟩ := eqCells_length he
        exact fieldKinds_sound (fun t' ks' h' => cellKinds_sound n t' ks' d h' (by omega)) w _ _ fs.toList 0 ks l m b h
          (hl.extract (by omega)) (hm.extract (by omega)) he
    · rename_i len e hu
      split at h
      · rename_i ke hke
        split at h
        · rename_i hlen
          simp at h; subst h
          intro w xs ys o o' l m b hl hm he hc
          obtain ⟨i, hi⟩ := info_of_underlying hu
          refine ⟨_, _, run_part_agg (i := i) hu rfl xs o w, run_part_agg (i := i) hu rfl ys o' w, ?_⟩
          obtain ⟨h1, h2⟩ := eqCells_length he
          obtain ⟨i', hi'⟩ := (show ∃ i', P.info? e = some i' from by
            cases n with
            | zero => simp [cellKinds] at hke
            | succ n =>
              cases hue : P.underlying e with
              | none => simp [cellKinds, hue] at hke
              | some d' => exact info_of_underlying hue)
          rw [run_equalIn_array w d _ _ hu hi', List.range_eq_range']
          exact eqItems_sound (cellKinds_sound n e ke d hke (by omega)) hlen w _ _ len 0 l m b
            (by simpa using hl.extract (by omega)) (by simpa using hm.extract (by omega)) he
        · simp at h
      · simp at h
    · simp at h

/-- a type whose cells can be compared holds no interface. -/
theorem cellKinds_guard : ∀ (n : Nat) (t : TypeId) (ks : List TK) (d : Nat), cellKinds P n t = some ks → n ≤ d → P.eqGuardType d t = false
  | 0, t, ks, d, h, _ => by simp [cellKinds] at h
  | n + 1, t, ks, 0, h, hd => by omega
  | n + 1, t, ks, d + 1, h, hd => by
    have ih := fun t' ks' h' => cellKinds_guard n t' ks' d h' (by omega)
    simp only [cellKinds] at h
    unfold Program.eqGuardType
    split at h
    · rename_i hu; simp [hu]
    · rename_i hu; simp [hu]
    · rename_i hu; simp [hu]
    · rename_i fs hu
      split at h
      · simp at h
      · rw [hu]
        simp only
        have key : ∀ (l : List Field) (off : Nat) (ks : List TK), fieldKinds P (cellKinds P n) l off = some ks → l.any (fun f => f.name != "_" && P.eqGuardType d f.type) = false := by
          intro l
          induction l with
          | nil => intro off ks _; rfl
          | cons f l ihl =>
            intro off ks h
            simp only [fieldKinds] at h
            split at h
            · simp at h
            split at h
            · split at h
              · rename_i k1 hk1
                split at h
                · split at h
                  · rename_i k2 hk2
                    simp [List.any_cons, ih _ _ hk1, ihl _ _ hk2]
                  · simp at h
                · simp at h
              · simp at h
            · simp at h
        have := key fs.toList 0 ks h
        rw [← Array.any_toList]; exact this
    · rename_i len e hu
      split at h
      · rename_i ke hke
        rw [hu]; exact ih _ _ hke
      · simp at h
    · simp at h

theorem cellKinds_struct {n : Nat} {t : TypeId} {fs : Array Field} (hu : P.underlying t = some (.struct fs)) :
    cellKinds P (n + 1) t = if P.stoodInHeld t then none else fieldKinds P (cellKinds P n) fs.toList 0 := by simp only [cellKinds, hu]

theorem cellKinds_array {n len : Nat} {t e : TypeId} (hu : P.underlying t = some (.array len e)) :
    cellKinds P (n + 1) t = match cellKinds P n e with
      | some l => if l.length = P.cellsOf e then some ((List.replicate len l).flatten) else none
      | none => none := by simp only [cellKinds, hu]; rfl

theorem cellKinds_info {n : Nat} {t : TypeId} {ks : List TK} (h : cellKinds P n t = some ks) : ∃ i, P.info? t = some i := by
  cases n with
  | zero => simp [cellKinds] at h
  | succ n =>
    cases hue : P.underlying t with
    | none => simp [cellKinds, hue] at h
    | some d' => exact info_of_underlying hue

theorem eqAgg_sound {t : TypeId} {x y : D} {b : Bool} (h : eqAgg P t x y = some b) {cx cy : Value} (rx : RD I x cx) (ry : RD I y cy) (w : World) :
    ∃ xs ys, cx = .agg xs ∧ cy = .agg ys ∧ P.eqGuardType P.depth t = false ∧ (Op.equalIn 10000 t cx cy).run P w = .ok b w := by
  have hdepth : 20 ≤ P.depth := by unfold Program.depth Made.depth; omega
  have main : ∀ (ks : List TK) (xs ys : List D), cellKinds P 20 t = some ks → x = .agg xs → y = .agg ys → eqCells ks xs ys = some b →
      ((∃ fs, P.underlying t = some (.struct fs)) ∨ ∃ n e, P.underlying t = some (.array n e)) →
      ∃ xs ys, cx = .agg xs ∧ cy = .agg ys ∧ P.eqGuardType P.depth t = false ∧ (Op.equalIn 10000 t cx cy).run P w = .ok b w := by
    intro ks xs ys hk hx hy he hu
    subst hx; subst hy
    obtain ⟨ax, rfl, lx, hcx⟩ := cr_of_rd rx
    obtain ⟨ay, rfl, ly, hcy⟩ := cr_of_rd ry
    refine ⟨ax, ay, rfl, rfl, cellKinds_guard 20 t ks _ hk hdepth, ?_⟩
    obtain ⟨h1, h2⟩ := eqCells_length he
    rcases hu with ⟨fs, hu⟩ | ⟨n, e, hu⟩
    · rw [cellKinds_struct (n := 19) hu] at hk
      split at hk
      · simp at hk
      · rename_i hp
        have hp : P.stoodInHeld t = false := by simpa using hp
        have hfs : P.fieldsOf t = fs := by simp [Program.fieldsOf, hu]
        rw [run_equalIn_struct w 9999 t _ _ (by rw [hfs]; exact hu) hp, hfs]
        exact fieldKinds_sound (fun t' ks' h' => cellKinds_sound 19 t' ks' 9999 h' (by omega)) w _ _ fs.toList 0 ks xs ys b hk hcx hcy he
    · rw [cellKinds_array (n := 19) hu] at hk
      split at hk
      · rename_i ke hke
        split at hk
        · rename_i hlen
          simp at hk; subst hk
          obtain ⟨i', hi'⟩ := cellKinds_info hke
          rw [run_equalIn_array w 9999 _ _ hu hi', List.range_eq_range']
          exact eqItems_sound (cellKinds_sound 19 e ke 9999 hke (by omega)) hlen w _ _ n 0 xs ys b (by simpa using hcx) (by simpa using hcy) he
        · simp at hk
      · simp at hk
  have agg : ∀ {z : D} {l : List D}, z.aggCells = some l → z = .agg l := by
    intro z l e; cases z <;> simp [D.aggCells] at e; subst e; rfl
  unfold eqAgg at h
  split at h
  · rename_i fs hu
    split at h
    · rename_i ks hk
      simp only [Option.bind_eq_some_iff] at h
      obtain ⟨xs, hx, ys, hy, he⟩ := h
      exact main ks xs ys hk (agg hx) (agg hy) he (.inl ⟨_, hu⟩)
    · simp at h
  · rename_i n e hu
    split at h
    · rename_i ks hk
      simp only [Option.bind_eq_some_iff] at h
      obtain ⟨xs, hx, ys, hy, he⟩ := h
      exact main ks xs ys hk (agg hx) (agg hy) he (.inr ⟨_, _, hu⟩)
    · simp at h
  · simp at h
end
end Go.Ab
