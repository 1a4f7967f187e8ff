/- Places: loads, stores, new variables. -/
import Derived.Test.YtecfekfenhacpaaGreatAbOps4
namespace Go.Ab
open Go
set_option linter.unusedVariables false
set_option linter.unusedSimpArgs false
variable {R : Type} {P : Program}

def TK.isAggK : TK → Bool
  | .agg _ => true
  | _ => false

theorem tkOf_spec {t : TypeId} {tk : TK} (h : tkOf P t = some tk) :
    tk.size = P.cellsOf t ∧ (∃ td i, P.underlying t = some td ∧ P.info? t = some i ∧ tkD td (P.cellsOf t) = some tk) ∧
    (∀ w : World, (isAgg t).run P w = .ok tk.isAggK w) ∧ (∀ w : World, (sizeOf t).run P w = .ok tk.size w) := by
  unfold tkOf at h
  split at h
  · rename_i td hu
    split at h
    · rename_i tk' htk
      cases hb : Nat.beq tk'.size (P.cellsOf t) with
      | false => simp [hb] at h
      | true =>
        simp [hb] at h; subst h
        have hs := beq_true.1 hb
        obtain ⟨i, hi⟩ := info_of_underlying hu
        refine ⟨hs, ⟨td, i, hu, hi, htk⟩, fun w => ?_, fun w => by rw [run_sizeOf w hi, hs]⟩
        simp only [isAgg, Sem.run_bind, run_underlying hu, Result.andThen_ok]
        cases td <;> simp [tkD] at htk <;> subst htk <;> rfl
    · simp at h
  · simp at h

theorem add_none (b o j : Nat) : (⟨b, o, none⟩ : Addr).add j = ⟨b, o + j, none⟩ := by
  unfold Addr.add; split
  · rename_i h; subst h; rfl
  · rfl

theorem run_loadVar {ρ : Nm} {I : Im} {t : TypeId} {tk : TK} (htk : tkOf P t = some tk) {w : World} {b o off : Nat} {u : V}
    (h : LoadR ρ I tk (fun j => cellAt w b (o + j)) off u) : ∃ c, (loadVar t ⟨b, o + off, none⟩).run P w = .ok c w ∧ RV ρ I u c := by
  obtain ⟨hs, _, hag, hsz⟩ := tkOf_spec htk
  cases tk with
  | agg sz =>
    obtain ⟨arr, h1, h2, h3⟩ := h
    refine ⟨.agg arr, ?_, h3⟩
    have := run_loadCells_list (P := P) (w := w) ⟨b, o + off, none⟩ arr.toList (fun j v hv => by
      rw [add_none]
      have hj : j < arr.size := by simpa using (List.getElem?_eq_some_iff.1 hv).1
      have := h2 j (by omega)
      simp only [cellAt] at this
      rw [Nat.add_assoc, this]
      simpa using hv)
    simp only [loadVar, Sem.run_bind, hag, Result.andThen_ok, TK.isAggK, if_true, hsz, TK.size]
    rw [← h1, ← Array.length_toList, this]
    simp
  | _ =>
    obtain ⟨y, hy, hr⟩ := h
    refine ⟨y, ?_, hr⟩
    simp only [cellAt] at hy
    simp only [loadVar, Sem.run_bind, hag, Result.andThen_ok, TK.isAggK, Bool.false_eq_true, if_false, run_load, hy]

/-- what an operation does: whatever the world, it yields a value and a memory of which Q holds. -/
def OpS (P : Program) (fr : Frame) (m : Mem) (o : Oper) (Q : V → Mem → Prop) : Prop :=
  ∀ ρ I (a : Act) (w : World), MemR ρ I m w → ρ m.next = none → FrameR ρ I fr a.tmps → ∃ x w' v m' ρ' I', (execOp a.eval o).run P w = .ok x w' ∧ Q v m' ∧
    (match x with | .value c => RV ρ' I' v c | .skip => v = .und | _ => False) ∧ StepR ρ I m w ρ' I' m' w'

theorem OpS.pure {fr : Frame} {m : Mem} {o : Oper} {Q : V → Mem → Prop} {v : V} (hq : Q v m)
    (h : ∀ ρ I (a : Act) (w : World), MemR ρ I m w → FrameR ρ I fr a.tmps → ∃ c, (execOp a.eval o).run P w = .ok (.value c) w ∧ RV ρ I v c) : OpS P fr m o Q :=
  fun ρ I a w hm _ hf => let ⟨c, h1, h2⟩ := h ρ I a w hm hf; ⟨.value c, w, v, m, ρ, I, h1, hq, h2, .refl hm⟩

theorem fullAt_spec {ek : EK} {tk : TK} {off : Nat} (h : fullAt ek tk off = true) : ∃ sz, tk = .agg sz ∧ ek.agg = true ∧ off = 0 ∧ ek.sz = sz := by
  unfold fullAt at h
  split at h
  · rename_i sz
    simp only [Bool.and_eq_true] at h
    exact ⟨sz, rfl, h.1.1, beq_true.1 h.1.2, beq_true.1 h.2⟩
  · simp at h

theorem V.cells_dsV {x : D} : (V.d x).cells = x.cells.map .d := rfl

theorem elem_off (o i sz off : Nat) : o + (i * sz + off) = (o + i * sz) + off := by omega

theorem getElem?_range {α : Type} {l : List α} {i : Nat} {x : α} (h : l[i]? = some x) : i < l.length := (List.getElem?_eq_some_iff.1 h).1

theorem loadC_sound {t : TypeId} {m : Mem} {x : V} {k : V → Option R} {r : R} (h : loadC P t m x k = some r) :
    ∃ u, k u = some r ∧ ∀ ρ I (c : Value) (w : World), MemR ρ I m w → RV ρ I x c → u.sto = true ∧ ∃ c', (Instr.loadAt t c).run P w = .ok c' w ∧ RV ρ I u c' := by
  unfold loadC at h
  split at h
  · rename_i tk htk
    have fin : ∀ {ρ : Nm} {I : Im} {w : World} {b o off : Nat} {u : V}, LoadR ρ I tk (fun j => cellAt w b (o + j)) off u →
        ∃ c', (Instr.loadAt t (.pointer (some ⟨b, o + off, none⟩))).run P w = .ok c' w ∧ RV ρ I u c' := by
      intro ρ I w b o off u hl
      obtain ⟨c', h1, h2⟩ := run_loadVar htk hl
      exact ⟨c', by simp [Instr.loadAt, Instr.sureAddr, h1], h2⟩
    have whole : ∀ {ek : EK} {off nc : Nat} {ag : Bool}, nc = ek.sz → ag = ek.agg → ∀ sz, tk = .agg sz → fullAt ek tk off = true → off = 0 ∧ nc = sz ∧ ag = true := by
      intro ek off nc ag h1 h2 sz h3 h4
      obtain ⟨sz', e1, e2, e3, e4⟩ := fullAt_spec h4
      rw [h3] at e1; simp at e1; subst e1
      exact ⟨e3, by rw [h1, e4], by rw [h2, e2]⟩
    split at h
    · rename_i n i off
      split at h
      · -- a variable
        rename_i ek v hg
        cases hi : Nat.beq i 0 with
        | false => simp [hi] at h
        | true =>
          rw [hi, cond_true] at h
          obtain rfl := beq_true.1 hi
          obtain ⟨u, hk, hl⟩ := loadV_sound h
          refine ⟨u, hk, fun ρ I c w hm hc => ?_⟩
          obtain ⟨g, hρ, h1, h2, h3, h5, h6, h7⟩ := hm.blk n _ hg
          cases hc with | ptr _ _ _ g' hg' =>
          obtain rfl : g' = g := by rw [hρ] at hg'; simpa using hg'.symm
          obtain ⟨hs, hl⟩ := hl ρ I (fun j => cellAt w g'.b (0 + j)) (whole h3.1 h3.2) (fun j u e => by simpa using (h5 j u e).2) (fun j u e => (h5 j u e).1)
          have := fin hl
          exact ⟨hs, by simpa [h1] using this⟩
      · -- a row
        rename_i ek rw_ cap frz hg
        split at h
        · rename_i ik l
          split at h
          · rename_i jk
            split at h
            · rename_i hik
              subst hik
              cases ho : Nat.beq off 0 with
              | false => simp [ho] at h
              | true =>
                rw [ho, cond_true] at h
                obtain rfl := beq_true.1 ho
                simp only [Option.bind_eq_some_iff] at h
                obtain ⟨a, ha, hk⟩ := h
                refine ⟨_, hk, fun ρ I c w hm hc => ⟨rfl, ?_⟩⟩
                obtain ⟨g, hρ, h1, h2, h3, h4, h5, h6, h7, h8⟩ := hm.blk n _ hg
                cases hc with | ptr _ _ _ g' hg' =>
                obtain rfl : g' = g := by rw [hρ] at hg'; simpa using hg'.symm
                obtain ⟨hek, hcell⟩ := h6
                have hsz : g'.sz = 1 := by rw [h1, hek]
                have := fin (ρ := ρ) (I := I) (w := w) (b := g'.b) (o := g'.o) (off := i) (u := .d (.int ik a)) ⟨.int ik a, hcell i a ha, .d _ _ (.int _ _)⟩
                simpa [hsz] using this
            · simp at h
          · simp at h
        · rename_i l
          simp only [Option.bind_eq_some_iff] at h
          obtain ⟨e, he, h⟩ := h
          obtain ⟨u, hk, hs, hl⟩ := loadD_sound h
          refine ⟨u, hk, fun ρ I c w hm hc => ⟨hs, ?_⟩⟩
          obtain ⟨g, hρ, h1, h2, h3, h4, h5, h6, h7, h8⟩ := hm.blk n _ hg
          cases hc with | ptr _ _ _ g' hg' =>
          obtain rfl : g' = g := by rw [hρ] at hg'; simpa using hg'.symm
          obtain ⟨hok, hcell⟩ := h6 i e he
          have := fin (hl ρ I (fun j => cellAt w g'.b (g'.o + i * g'.sz + j)) (whole hok.1 hok.2)
            (fun j u eu => by obtain ⟨_, y, hy, hr⟩ := hcell j u eu; exact ⟨y, by show cellAt w g'.b (g'.o + i * g'.sz + j) = _; rw [h1, ← elem_off]; exact hy, hr⟩) (fun j u eu => (hcell j u eu).1))
          rw [elem_off]; exact this
        · rename_i l
          split at h
          · rename_i e he
            obtain ⟨u, hk, hl⟩ := loadV_sound h
            refine ⟨u, hk, fun ρ I c w hm hc => ?_⟩
            obtain ⟨g, hρ, h1, h2, h3, h4, h5, h6, h7, h8⟩ := hm.blk n _ hg
            cases hc with | ptr _ _ _ g' hg' =>
            obtain rfl : g' = g := by rw [hρ] at hg'; simpa using hg'.symm
            obtain ⟨hok, hcell⟩ := h6 i e he
            obtain ⟨hs, hl⟩ := hl ρ I (fun j => cellAt w g'.b (g'.o + i * g'.sz + j)) (whole hok.1 hok.2)
              (fun j u eu => by obtain ⟨_, y, hy, hr⟩ := hcell j u eu; exact ⟨y, by show cellAt w g'.b (g'.o + i * g'.sz + j) = _; rw [h1, ← elem_off]; exact hy, hr⟩) (fun j u eu => (hcell j u eu).1)
            have := fin hl
            rw [elem_off]; exact ⟨hs, this⟩
          · simp at h
      · simp at h
    · rename_i ek e off
      obtain ⟨u, hk, hs, hl⟩ := loadD_sound h
      refine ⟨u, hk, fun ρ I c w hm hc => ⟨hs, ?_⟩⟩
      cases hc with | cp _ _ _ a y h1 h2 h3 =>
      exact fin (hl ρ I (fun j => cellAt w a.block (a.off + j)) (whole h1.1 h1.2)
        (fun j u eu => ⟨y j, hm.imm _ _ _ (h2 j u eu).2, h3 j u eu⟩) (fun j u eu => (h2 j u eu).1))
    · simp at h
  · simp at h

end Go.Ab
