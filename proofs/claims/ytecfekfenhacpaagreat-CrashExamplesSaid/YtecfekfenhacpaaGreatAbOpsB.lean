/- Places of elements; new rows. -/
import Derived.Test.YtecfekfenhacpaaGreatAbOpsA
import Derived.Laws.IdiomStrings
import Derived.Laws.MakeOwn
namespace Go.Ab
open Go
set_option linter.unusedVariables false
set_option linter.unusedSimpArgs false
variable {R : Type} {P : Program}

theorem indexAddrC_sound {t : TypeId} {m : Mem} {x ix : V} {k : V → Option R} {r : R} (h : indexAddrC P t m x ix k = some r) :
    ∃ v, k v = some r ∧ ∀ ρ I (cx ci : Value) (w : World), MemR ρ I m w → RV ρ I x cx → RV ρ I ix ci → ∃ c, (Instr.indexAt t cx ci).run P w = .ok c w ∧ RV ρ I v c := by
  unfold indexAddrC at h
  split at h
  · rename_i ik i
    split at h
    · rename_i e hu
      split at h
      · rename_i tk htk
        have hsz := (tkOf_spec htk).2.2.2
        have fin : ∀ (a : Addr) (len cap : Nat) (w : World), 0 ≤ i → i < (len : Int) → (Instr.indexAt t (.slice (some a) len cap) (.int ik i)).run P w = .ok (.pointer (some (a.add (i.toNat * tk.size)))) w := by
          intro a len cap w h0 h1
          have : 0 ≤ i ∧ i < (len : Int) := ⟨h0, h1⟩
          simp [Instr.indexAt, asIntOf, run_underlying hu, this, hsz]
        split at h
        · rename_i n
          split at h
          · rename_i ek rw_ cap frz hg
            cases he : Nat.beq ek.sz tk.size with
            | false => simp [he] at h
            | true =>
              rw [he, cond_true] at h
              have he := beq_true.1 he
              split at h
              · rename_i hi
                refine ⟨_, h, fun ρ I cx ci w hm hx hix => ?_⟩
                obtain ⟨g, hρ, h1, h2, h3, h4, h5, h6, h7, h8⟩ := hm.blk n _ hg
                cases hx with | own _ g' hg' =>
                obtain rfl : g' = g := by rw [hρ] at hg'; simpa using hg'.symm
                cases hix with | d _ _ hix =>
                cases hix
                refine ⟨_, fin _ _ _ w hi.1 (by rw [h2]; exact hi.2), ?_⟩
                rw [add_none]
                have := RV.ptr (ρ := ρ) (I := I) n i.toNat 0 g' hg'
                rwa [h1, he] at this
              · simp at h
          · simp at h
        · rename_i n lo len cp
          split at h
          · rename_i ek rw_ cap frz hg
            cases he : Nat.beq ek.sz tk.size with
            | false => simp [he] at h
            | true =>
              rw [he, cond_true] at h
              have he := beq_true.1 he
              split at h
              · rename_i hi
                refine ⟨_, h, fun ρ I cx ci w hm hx hix => ?_⟩
                obtain ⟨g, hρ, h1, h2, h3, h4, h5, h6, h7, h8⟩ := hm.blk n _ hg
                cases hx with | osl _ _ _ _ g' ad c hg' a1 a2 a3 a4 a5 a6 =>
                obtain rfl : g' = g := by rw [hρ] at hg'; simpa using hg'.symm
                cases hix with | d _ _ hix =>
                cases hix
                refine ⟨_, fin _ _ _ w hi.1 hi.2, ?_⟩
                rw [a3 (by omega), add_none]
                have := RV.ptr (ρ := ρ) (I := I) n (lo + i.toNat) 0 g' hg'
                rw [h1, he] at this
                rw [h1, he]
                have e1 : g'.o + ((lo + i.toNat) * tk.size + 0) = g'.o + lo * tk.size + i.toNat * tk.size := by rw [Nat.add_mul]; omega
                rwa [e1] at this
              · simp at h
          · simp at h
        · rename_i y
          split at h
          · rename_i jk
            simp only [Option.bind_eq_some_iff] at h
            obtain ⟨l, hl, a, ha, hk⟩ := h
            obtain ⟨h0, ha, hlt⟩ := nth_spec ha
            refine ⟨_, hk, fun ρ I cx ci w hm hx hix => ?_⟩
            cases hix with | d _ _ hix =>
            cases hix
            cases hx with | d _ _ hx =>
            rcases ints_spec hl with ⟨cap, rfl⟩ | ⟨rfl, rfl⟩
            · cases hx with | is _ _ _ ad c h1 h2 h3 =>
              refine ⟨_, fin _ _ _ w h0 hlt, ?_⟩
              obtain ⟨b1, b2⟩ := h3 _ _ ha
              have hts : (TK.int jk).size = 1 := rfl
              have := RV.cp (ρ := ρ) (I := I) ⟨false, 1⟩ (.int jk a) 0 ⟨ad.block, ad.off + i.toNat, none⟩ (fun _ => .int jk a) ⟨rfl, rfl⟩ (fun j x ex => by
                cases j with
                | zero => simp [D.cells] at ex; subst ex; exact ⟨rfl, b2⟩
                | succ j => simp [D.cells] at ex) (fun j x ex => by
                cases j with
                | zero => simp [D.cells] at ex; subst ex; exact .int _ _
                | succ j => simp [D.cells] at ex)
              obtain ⟨bl, of, sp⟩ := ad
              simp at b1; subst b1
              rw [add_none]
              simpa [hts] using this
            · simp at ha
          · rename_i hni
            cases hz : Nat.beq tk.size 0 with
            | true => simp [hz] at h
            | false =>
            rw [hz, cond_false] at h
            have hz : tk.size ≠ 0 := beq_false.1 hz
            simp only [Option.bind_eq_some_iff] at h
            obtain ⟨l, hl, a, ha, hk⟩ := h
            obtain ⟨h0, ha, hlt⟩ := nth_spec ha
            refine ⟨_, hk, fun ρ I cx ci w hm hx hix => ?_⟩
            cases hix with | d _ _ hix =>
            cases hix
            cases hx with | d _ _ hx =>
            rcases elems_spec hl with ⟨cap, rfl⟩ | ⟨rfl, rfl⟩
            · cases hx with | sl _ _ _ ad c y h1 h2 h3 h4 h5 =>
              refine ⟨_, fin _ _ _ w h0 hlt, ?_⟩
              have hok := h3 _ _ ha
              have hek : tk.ek.sz = tk.size := by rw [TK.ek_eq]
              have hc : 0 < a.cells.length := by rw [← D.nc_cells, hok.1, hek]; omega
              have hsp := (h4 _ _ 0 _ ha (List.getElem?_eq_getElem hc)).1
              have := RV.cp (ρ := ρ) (I := I) tk.ek a 0 ⟨ad.block, ad.off + i.toNat * tk.size, none⟩ (y i.toNat) hok
                (fun j x ex => ⟨(h4 _ _ j x ha ex).2.1, by have := (h4 _ _ j x ha ex).2.2; rw [hek, ← Nat.add_assoc] at this; exact this⟩) (fun j x ex => h5 _ _ j x ha ex)
              obtain ⟨bl, of, sp⟩ := ad
              simp at hsp; subst hsp
              rw [add_none]
              simpa using this
            · simp at ha
        · simp at h
      · simp at h
    · rename_i len e hu
      cases hinf : (P.info? e).isSome with
      | false => simp [hinf] at h
      | true =>
        rw [hinf, cond_true] at h
        obtain ⟨inf, hinf⟩ := Option.isSome_iff_exists.1 hinf
        have fin : ∀ (a : Addr) (w : World), 0 ≤ i → i < (len : Int) → (Instr.indexAt t (.pointer (some a)) (.int ik i)).run P w = .ok (.pointer (some (a.add (i.toNat * P.cellsOf e)))) w := by
          intro a w h0 h1
          have : 0 ≤ i ∧ i < (len : Int) := ⟨h0, h1⟩
          simp [Instr.indexAt, asIntOf, Instr.sureAddr, run_underlying hu, this, run_sizeOf w hinf]
        split at h
        · rename_i n j off
          split at h
          · rename_i hi
            refine ⟨_, h, fun ρ I cx ci w hm hx hix => ?_⟩
            cases hx with | ptr _ _ _ g hg =>
            cases hix with | d _ _ hix =>
            cases hix
            refine ⟨_, fin _ w hi.1 hi.2.1, ?_⟩
            rw [add_none]
            have := RV.ptr (ρ := ρ) (I := I) n j (off + i.toNat * P.cellsOf e) g hg
            have e1 : g.o + (j * g.sz + (off + i.toNat * P.cellsOf e)) = g.o + (j * g.sz + off) + i.toNat * P.cellsOf e := by omega
            rwa [e1] at this
          · simp at h
        · rename_i ek y off
          split at h
          · rename_i hi
            refine ⟨_, h, fun ρ I cx ci w hm hx hix => ?_⟩
            cases hx with | cp _ _ _ a y' h1 h2 h3 =>
            cases hix with | d _ _ hix =>
            cases hix
            refine ⟨_, fin _ w hi.1 hi.2.1, ?_⟩
            rw [add_none]
            have := RV.cp (ρ := ρ) (I := I) ek y (off + i.toNat * P.cellsOf e) a y' h1 h2 h3
            rwa [← Nat.add_assoc] at this
          · simp at h
        · simp at h
    · simp at h
  · simp at h

/-- a new row under a new name. -/
theorem step_row {ρ : Nm} {I : Im} {m : Mem} {w w0 : World} {ek : EK} {r : Row} {cap : Nat} {co : Option Nat} {frz : Bool} {C : Array Value} {fr : Nat × Nat} (e : TypeId)
    (hm : MemR ρ I m w) (hn : ρ m.next = none) (hheap : w0.heap = w.heap) (hos : w0.os = w.os) (hout : w0.output = w.output) (htape : w0.tape = w.tape)
    (hrow : RowF ρ I (fun j => C[j]?) ek r) (hle : r.len ≤ cap) (hC : cap * ek.sz ≤ C.size) (hco : ∀ n, co = some n → cap = n) (hfr : ∀ j, j < cap * ek.sz → ¬ (fr.1 ≤ j ∧ j < fr.2)) :
    ∃ ρ', StepR ρ I m w ρ' I (m.alloc (.arr ek r co frz)) (w0.alloc (.cells C e fr)) ∧ RV ρ' I (.own m.next) (.slice (some ⟨w.heap.size, 0, none⟩) r.len cap) := by
  let g : Gh := ⟨w.heap.size, 0, ek.sz, r.len, cap⟩
  have hext := Nm.set_ext (g := g) hn
  have hcell : ∀ j, cellAt (w0.alloc (.cells C e fr)) w.heap.size j = C[j]? := fun j => by
    unfold cellAt; rw [← hheap]; exact World.cell?_alloc_mark w0 C e fr j
  have hunf : ∀ j, j < cap * ek.sz → unfrozen (w0.alloc (.cells C e fr)) w.heap.size j := fun j hj => by
    unfold unfrozen
    rw [← hheap, World.frozen?_alloc_mark w0 C e fr.1 fr.2 j]
    have := hfr j hj
    simp; omega
  refine ⟨ρ.set m.next g, StepR.fresh (g := g) hm hn rfl (fun _ _ h _ => h) (fun _ e h => ⟨e, h⟩) (fun _ _ h => h) (fun _ _ h => h) (.inl (Nat.le_refl _)) ?_ ?_ ?_ hos hout htape ?_ ?_, ?_⟩
  · show w.heap.size < (w0.alloc _).heap.size
    simp [hheap]
  · intro b hb hne
    rw [heap_alloc_old w0 _ b (by rw [hheap]; exact hb), hheap]
  · simp [hheap]
  · intro j x h
    have := imm_lt hm (b := w.heap.size) (Nat.le_refl _) j
    rw [show g.b = w.heap.size from rfl, this] at h; simp at h
  · refine ⟨rfl, rfl, hle, hco, fun j hj => ⟨?_, ?_⟩, ?_, fun _ j _ => imm_lt hm (Nat.le_refl _) j, fun j _ => imm_lt hm (Nat.le_refl _) j⟩
    · show ∃ y, cellAt _ w.heap.size (0 + j) = some y
      rw [Nat.zero_add, hcell]
      have : j < C.size := Nat.lt_of_lt_of_le hj hC
      exact ⟨C[j], by simp [this]⟩
    · show unfrozen _ w.heap.size (0 + j)
      rw [Nat.zero_add]; exact hunf j hj
    · rw [rowR_iff]
      refine hrow.congr hext (ExtI.refl _) fun j y _ hy => ?_
      show cellAt _ w.heap.size (0 + j) = _
      rw [Nat.zero_add, hcell]; exact hy
  · exact RV.own (ρ := ρ.set m.next g) (I := I) m.next g (by simp [Nm.set])


/-! ### append -/

/-- what append does of a slice value, where the appended cells are known. -/
theorem run_append_grows {t u ty e : TypeId} {i : TypeInfo} {z : Value} {td : TypeDesc} {w : World} {a : Option Addr} {sLen sCap n : Nat} {x : Value} {olds news : List Value}
    (ht : P.underlying t = some (.slice e)) (hu : P.underlying u = some td) (htd : ∀ k, td ≠ .int k) (hi : P.info? e = some i) (hz : i.zero = some z) (hx : ∀ w : World, (Builtin.lenOf x).run P w = .ok n w)
    (hnew : (Builtin.firstCells i.size n x).run P w.drew = .ok news.toArray w.drew) (hold : (Builtin.firstCells i.size sLen (.slice a sLen sCap)).run P w.drew = .ok olds.toArray w.drew)
    (hg : sCap < sLen + n) (hroom : (sLen + n) * i.bytes ≤ 140737488355328) (h63 : sLen + n ≤ 9223372036854775807) :
    (Builtin.append_ #[t, u] ty #[.slice a sLen sCap, x]).run P w =
      .ok (.slice (some ⟨w.heap.size, 0, none⟩) (sLen + n) (grownCap w (sLen + n) sCap e))
        (w.drew.alloc (.cells (olds.toArray ++ news.toArray ++ Builtin.zeroCells z.cells (grownCap w (sLen + n) sCap e - (sLen + n))) e)) := by
  have hn : ¬ (sLen + n ≤ sCap) := by omega
  have h63' : ¬ (9223372036854775807 < ((sLen : Int) + (n : Int))) := by omega
  have h48' : ¬ (281474976710656 < Builtin.nextslicecap (sLen + n) sCap * i.bytes) := by have := growslice_fits hg hroom; omega
  have hm : (td matches .int _) = false := by
    cases td <;> first | (exact absurd rfl (htd _)) | rfl
  simp [Builtin.append_, run_underlying ht, run_underlying hu, sizeOf, typeInfo, zeroValue, hi, hz, hx, hn, h63', h48', Question.forced, hnew, hold, newRow, grownCap, hm]
  congr 2
  apply Array.ext'
  simp [List.append_assoc]

end Go.Ab
