/- What the evaluator's values and memory say of the model's world. -/
import Derived.Test.YtecfekfenhacpaaGreatAbExec
import Derived.Laws.Rows
import Derived.Laws.Cells
import Derived.Laws.World
import Derived.Laws.Sem
namespace Go.Ab
open Go
set_option linter.unusedVariables false

abbrev Im := Nat → Nat → Option Value

/-- where a name's block lies in the world. -/
structure Gh where
  b : Nat
  o : Nat
  sz : Nat
  len : Nat
  cap : Nat

abbrev Nm := Nat → Option Gh

/-- can it lie in one cell? -/
def V.isCell : V → Bool
  | .agg _ => false
  | .tup _ => false
  | .und => false
  | .d x => !x.isAgg
  | _ => true

def EOk (ek : EK) (e : D) : Prop := e.nc = ek.sz ∧ e.isAgg = ek.agg
def VOk (ek : EK) (e : V) : Prop := e.nc = ek.sz ∧ e.isAgg = ek.agg

inductive RD (I : Im) : D → Value → Prop
  | bool (b : Bool) : RD I (.bool b) (.bool b)
  | int (k : IntKind) (n : Int) : RD I (.int k n) (.int k n)
  | str (s : List UInt8) : RD I (.str s) (.string ⟨s.toArray⟩)
  | nilp : RD I .nilp (.pointer none)
  | nils : RD I .nils (.slice none 0 0)
  | nilm : RD I .nilm (.map none)
  | nilf : RD I .nilf .nilFunc
  | nili : RD I .nili .nilIface
  | is (k : IntKind) (l : List Int) (cap : Option Nat) (a : Addr) (c : Nat) : l.length ≤ c → (∀ n, cap = some n → c = n) →
      (∀ (i : Nat) (n : Int), l[i]? = some n → a.spot = none ∧ I a.block (a.off + i) = some (.int k n)) → RD I (.is k l cap) (.slice (some a) l.length c)
  | sl (ek : EK) (es : List D) (cap : Option Nat) (a : Addr) (c : Nat) (y : Nat → Nat → Value) : es.length ≤ c → (∀ n, cap = some n → c = n) →
      (∀ (i : Nat) (e : D), es[i]? = some e → EOk ek e) →
      (∀ (i : Nat) (e : D) (j : Nat) (x : D), es[i]? = some e → e.cells[j]? = some x → a.spot = none ∧ x.isAgg = false ∧ I a.block (a.off + (i * ek.sz + j)) = some (y i j)) →
      (∀ (i : Nat) (e : D) (j : Nat) (x : D), es[i]? = some e → e.cells[j]? = some x → RD I x (y i j)) → RD I (.sl ek es cap) (.slice (some a) es.length c)
  | iface (t : TypeId) (v : D) (c : Value) : RD I v c → RD I (.iface t v) (.iface t c)
  | agg (cs : List D) (arr : Array Value) : cs.length = arr.size → (∀ (j : Nat) (x : D), cs[j]? = some x → x.isAgg = false) →
      (∀ (j : Nat) (x : D) (y : Value), cs[j]? = some x → arr[j]? = some y → RD I x y) → RD I (.agg cs) (.agg arr)
  | fn (f : FuncId) : RD I (.fn f) (.func (.func f) #[] #[])

inductive RV (ρ : Nm) (I : Im) : V → Value → Prop
  | d (x : D) (c : Value) : RD I x c → RV ρ I (.d x) c
  | ptr (n i off : Nat) (g : Gh) : ρ n = some g → RV ρ I (.ptr n i off) (.pointer (some ⟨g.b, g.o + (i * g.sz + off), none⟩))
  | cp (ek : EK) (e : D) (off : Nat) (a : Addr) (y : Nat → Value) : EOk ek e → (∀ (j : Nat) (x : D), e.cells[j]? = some x → x.isAgg = false ∧ I a.block (a.off + j) = some (y j)) →
      (∀ (j : Nat) (x : D), e.cells[j]? = some x → RD I x (y j)) → RV ρ I (.cp ek e off) (.pointer (some ⟨a.block, a.off + off, none⟩))
  | own (n : Nat) (g : Gh) : ρ n = some g → RV ρ I (.own n) (.slice (some ⟨g.b, g.o, none⟩) g.len g.cap)
  | osl (n lo len : Nat) (cap : Option Nat) (g : Gh) (ad : Addr) (c : Nat) : ρ n = some g → lo + len ≤ g.len → len ≤ c →
      (c ≠ 0 → ad = ⟨g.b, g.o + lo * g.sz, none⟩) → (cap = none → lo + c = g.cap) → (∀ k, cap = some k → c = k) → lo + c ≤ g.cap →
      RV ρ I (.osl n lo len cap) (.slice (some ad) len c)
  | view (n off len : Nat) (g : Gh) (ad : Addr) (c : Nat) : ρ n = some g → len ≤ c → (c ≠ 0 → ad = ⟨g.b, g.o + off, none⟩) →
      RV ρ I (.view n off len) (.slice (some ad) len c)
  | fnc (f : FuncId) (us vs : List V) (as bs : Array Value) : us.length = as.size → vs.length = bs.size →
      (∀ (j : Nat) (x : V) (y : Value), us[j]? = some x → as[j]? = some y → RV ρ I x y) → (∀ (j : Nat) (x : V) (y : Value), vs[j]? = some x → bs[j]? = some y → RV ρ I x y) →
      RV ρ I (.fnc f us vs) (.func (.func f) as bs)
  | agg (cs : List V) (arr : Array Value) : cs.length = arr.size → (∀ (j : Nat) (x : V), cs[j]? = some x → x.isCell = true) →
      (∀ (j : Nat) (x : V) (y : Value), cs[j]? = some x → arr[j]? = some y → RV ρ I x y) → RV ρ I (.agg cs) (.agg arr)
  | tup (vs : List V) (arr : Array Value) : vs.length = arr.size →
      (∀ (j : Nat) (x : V) (y : Value), vs[j]? = some x → arr[j]? = some y → RV ρ I x y) → RV ρ I (.tup vs) (.tuple arr)
  | iface (t : TypeId) (v : V) (c : Value) : RV ρ I v c → RV ρ I (.iface t v) (.iface t c)
  | mp (n : Nat) (g : Gh) : ρ n = some g → RV ρ I (.mp n) (.map (some g.b))
  | it (n : Nat) (g : Gh) : ρ n = some g → RV ρ I (.it n) (.pointer (some ⟨g.b, 0, none⟩))
  | und : RV ρ I .und undef

def ExtI (I I' : Im) : Prop := ∀ b j x, I b j = some x → I' b j = some x
def ExtN (ρ ρ' : Nm) : Prop := ∀ n g, ρ n = some g → ρ' n = some g

theorem ExtI.refl (I : Im) : ExtI I I := fun _ _ _ h => h
theorem ExtN.refl (ρ : Nm) : ExtN ρ ρ := fun _ _ h => h
theorem ExtI.trans {I I' I'' : Im} (h : ExtI I I') (h' : ExtI I' I'') : ExtI I I'' := fun b j x e => h' _ _ _ (h b j x e)
theorem ExtN.trans {ρ ρ' ρ'' : Nm} (h : ExtN ρ ρ') (h' : ExtN ρ' ρ'') : ExtN ρ ρ'' := fun n g e => h' _ _ (h n g e)

theorem RD.mono {I I' : Im} (hI : ExtI I I') {x : D} {c : Value} (h : RD I x c) : RD I' x c := by
  induction h with
  | bool b => exact .bool b
  | int k n => exact .int k n
  | str s => exact .str s
  | nilp => exact .nilp
  | nils => exact .nils
  | nilm => exact .nilm
  | nilf => exact .nilf
  | nili => exact .nili
  | is k l cap a c h1 h2 h3 => exact .is k l cap a c h1 h2 fun i n e => ⟨(h3 i n e).1, hI _ _ _ (h3 i n e).2⟩
  | sl ek es cap a c y h1 h2 h3 h4 h5 ih => exact .sl ek es cap a c y h1 h2 h3 (fun i e j x e1 e2 => ⟨(h4 i e j x e1 e2).1, (h4 i e j x e1 e2).2.1, hI _ _ _ (h4 i e j x e1 e2).2.2⟩) ih
  | iface t v c _ ih => exact .iface t v c ih
  | agg cs arr h1 h2 _ ih => exact .agg cs arr h1 h2 ih
  | fn f => exact .fn f

theorem RV.mono {ρ ρ' : Nm} {I I' : Im} (hρ : ExtN ρ ρ') (hI : ExtI I I') {v : V} {c : Value} (h : RV ρ I v c) : RV ρ' I' v c := by
  induction h with
  | d x c h => exact .d x c (h.mono hI)
  | ptr n i off g h => exact .ptr n i off g (hρ _ _ h)
  | cp ek e off a y h1 h2 h3 => exact .cp ek e off a y h1 (fun j x e => ⟨(h2 j x e).1, hI _ _ _ (h2 j x e).2⟩) fun j x e => (h3 j x e).mono hI
  | own n g h => exact .own n g (hρ _ _ h)
  | osl n lo len cap g ad c h h1 h2 h3 h4 h5 h6 => exact .osl n lo len cap g ad c (hρ _ _ h) h1 h2 h3 h4 h5 h6
  | view n off len g ad c h h1 h2 => exact .view n off len g ad c (hρ _ _ h) h1 h2
  | fnc f us vs as bs h1 h2 _ _ ih1 ih2 => exact .fnc f us vs as bs h1 h2 ih1 ih2
  | agg cs arr h1 h2 _ ih => exact .agg cs arr h1 h2 ih
  | tup vs arr h1 _ ih => exact .tup vs arr h1 ih
  | iface t v c _ ih => exact .iface t v c ih
  | mp n g h => exact .mp n g (hρ _ _ h)
  | it n g h => exact .it n g (hρ _ _ h)
  | und => exact .und

/-! ### cells -/

theorem RD.notAgg {I : Im} {x : D} {c : Value} (h : RD I x c) (hx : x.isAgg = false) : c.cells = #[c] ∧ x.cells = [x] ∧ c.oneCell' = true := by
  cases h <;> first | exact ⟨rfl, rfl, rfl⟩ | (simp [D.isAgg] at hx)

theorem RD.cells {I : Im} {x : D} {c : Value} (h : RD I x c) :
    x.cells.length = c.cells.size ∧ ∀ (j : Nat) (u : D), x.cells[j]? = some u → u.isAgg = false ∧ ∃ y, c.cells[j]? = some y ∧ RD I u y := by
  cases hx : x.isAgg with
  | false =>
    obtain ⟨h1, h2, _⟩ := h.notAgg hx
    rw [h1, h2]
    refine ⟨rfl, fun j u e => ?_⟩
    cases j with
    | zero => simp at e; subst e; exact ⟨hx, c, rfl, h⟩
    | succ j => simp at e
  | true =>
    cases h with
    | agg cs arr h1 h2 h3 =>
      refine ⟨h1, fun j u e => ⟨h2 j u e, ?_⟩⟩
      have hlt : j < arr.size := by rw [← h1]; exact (List.getElem?_eq_some_iff.1 e).1
      exact ⟨arr[j], by simp [Value.cells, hlt], h3 j u _ e (by simp [hlt])⟩
    | _ => simp [D.isAgg] at hx

theorem D.nc_cells (x : D) : x.nc = x.cells.length := by cases x <;> rfl

theorem D.cells_of_notAgg {x : D} (h : x.isAgg = false) : x.cells = [x] := by cases x <;> first | rfl | (simp [D.isAgg] at h)

theorem V.nc_cells (v : V) : v.nc = v.cells.length := by
  cases v <;> first | rfl | simp [V.nc, V.cells, D.nc_cells]

theorem RV.notAgg {ρ : Nm} {I : Im} {v : V} {c : Value} (h : RV ρ I v c) (hv : v.isCell = true) : c.cells = #[c] ∧ v.cells = [v] ∧ c.oneCell' = true := by
  cases h with
  | d x c h =>
    obtain ⟨h1, h2, h3⟩ := h.notAgg (by simpa [V.isCell] using hv)
    exact ⟨h1, by simp [V.cells, h2], h3⟩
  | _ => first | exact ⟨rfl, rfl, rfl⟩ | (simp [V.isCell] at hv)


theorem RV.cells {ρ : Nm} {I : Im} {v : V} {c : Value} (h : RV ρ I v c) (hs : v.sto = true) :
    v.cells.length = c.cells.size ∧ ∀ (j : Nat) (u : V), v.cells[j]? = some u → u.isCell = true ∧ ∃ y, c.cells[j]? = some y ∧ RV ρ I u y := by
  cases h with
  | d x c h =>
    obtain ⟨h1, h2⟩ := h.cells
    refine ⟨by simpa [V.cells] using h1, fun j u e => ?_⟩
    simp only [V.cells, List.getElem?_map, Option.map_eq_some_iff] at e
    obtain ⟨z, hz, rfl⟩ := e
    obtain ⟨h3, y, hy, hr⟩ := h2 j z hz
    exact ⟨by simp [V.isCell, h3], y, hy, .d _ _ hr⟩
  | agg cs arr h1 h2 h3 =>
    refine ⟨h1, fun j u e => ⟨h2 j u e, ?_⟩⟩
    have hlt : j < arr.size := by rw [← h1]; exact (List.getElem?_eq_some_iff.1 e).1
    exact ⟨arr[j], by simp [Value.cells, hlt], h3 j u _ e (by simp [hlt])⟩
  | tup => simp [V.sto] at hs
  | und => simp [V.sto] at hs
  | _ =>
    refine ⟨rfl, fun j u e => ?_⟩
    cases j with
    | zero => simp [V.cells] at e; subst e; exact ⟨rfl, _, rfl, by constructor <;> assumption⟩
    | succ j => simp [V.cells] at e

end Go.Ab
