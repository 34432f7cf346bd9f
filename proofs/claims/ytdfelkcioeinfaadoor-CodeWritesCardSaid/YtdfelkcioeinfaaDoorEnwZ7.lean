/- The engine, part Z7: errors.As at a target of one pointer type, out of its contracts. -/
import Derived.Test.YtdfelkcioeinfaaDoorEnwZ5
import Derived.RowKit
set_option linter.unusedVariables false
set_option linter.unusedSimpArgs false
namespace Go.Eng
open Go Go.RowKit
theorem HR.onward {Φ : Fr} {w w' w1 : World} {π : Pi} {h : List Blk} (hr : HR Φ w1 π h w) (hb : Below w.heap.size w w') : HR Φ w1 π h w' :=
  hr.master (Turn.below hb rfl fun _ _ => False) (fun _ _ e => e.elim) (hr.fzTurn (Turn.below hb rfl fun _ _ => False) fun _ _ e => e.elim) (Fr.le_refl _) (Pi.le_refl _) (fun _ => False) (fun _ _ => ⟨rfl, rfl⟩)
    (fun _ e => e.elim) (fun _ _ e => e.elim) (fun _ _ _ e => e.elim) (fun _ _ _ _ _ _ e => e.elim) (fun _ _ _ _ _ _ e => e.elim) (fun j blk A _ hb ho hA g off hh => ⟨fun e => e, (hr.own j blk A hb ho hA g off hh).2.2⟩)
theorem espOk_as {P : Program} {g : FuncId} {tE tP : TypeId} (hs : sizeB P tE = some 1)
    (hN : ∀ (t : Value) (w : World), Calls P g #[.nilIface, t] w fun e w' => e = .returned (.bool false) ∧ w' = w)
    (hH : ∀ (e t : Addr) (old : Value) (w : World), BaseOk w → w.cell? t = some old → w.frozen? t = false → Calls P g #[.iface tE (.pointer (some e)), .iface tP (.pointer (some t))] w fun ev w' =>
      ev = .returned (.bool true) ∧ ∃ w4, Below w.heap.size w w4 ∧ w' = w4.setCell t (.pointer (some e))) : ESpOk P g (asSp tE tP) := by
  intro R args h k x r h1 h2
  subst h2
  simp only [asSp] at h1
  split at h1
  · rename_i t b o
    split at h1
    · have h1 := Option.some.inj h1
      refine ⟨_, _, h1, fun Φ w1 w π cargs hr ha => ?_⟩
      obtain ⟨c1, m, hm, hv1, hn⟩ := VRL.cons ha
      obtain ⟨c2, m2, rfl, hv2, hn2⟩ := VRL.cons hn
      have := VRL.nil hn2; subst this
      have hca : cargs = #[c1, c2] := Array.toList_inj.1 (by simpa using hm)
      simp only [VR] at hv1
      subst hv1
      rw [hca]
      refine (hN c2 w).mono ?_
      rintro e w' ⟨rfl, rfl⟩
      exact ⟨_, Φ, π, rfl, Fr.ext.refl _ _, Pi.le_refl _, hr, by simp only [VR]⟩
    · cases h1
  · rename_i t b o t2 b2 o2
    split at h1
    · rename_i ht
      simp only [Bool.and_eq_true, beq_iff_eq] at ht
      obtain ⟨rfl, rfl⟩ := ht
      split at h1
      · rename_i c hb
        split at h1
        · rename_i hl
          have h1 := Option.some.inj h1
          refine ⟨_, _, h1, fun Φ w1 w π cargs hr ha => ?_⟩
          obtain ⟨c1, m, hm, hv1, hn⟩ := VRL.cons ha
          obtain ⟨c2, m2, rfl, hv2, hn2⟩ := VRL.cons hn
          have := VRL.nil hn2; subst this
          have hca : cargs = #[c1, c2] := Array.toList_inj.1 (by simpa using hm)
          have hv1' := hv1
          simp only [VR] at hv1 hv2
          obtain ⟨u1, rfl, A, hA, rfl⟩ := hv1
          obtain ⟨u2, rfl, A2, hA2, rfl⟩ := hv2
          rw [hca]
          have hcell : ∃ old, wcell w A2.g (A2.o + o2) = some old := by
            have h4 := hr.get hb (by simp) hA2
            simp only [BR] at h4
            obtain ⟨e1, e2, cs, hc, hcs⟩ := h4
            have hlc := VRL.length hc
            exact ⟨_, hcs o2 _ (List.getElem?_eq_getElem (by omega))⟩
          obtain ⟨old, hold⟩ := hcell
          refine (hH ⟨A.g, A.o + o, none⟩ ⟨A2.g, A2.o + o2, none⟩ old w (hr.base.below hr.below) (wcell_cell hold) (wcell_frozen hold)).mono ?_
          rintro e w' ⟨rfl, w4, hb4, rfl⟩
          have hr4 := hr.onward hb4
          have hold4 : wcell w4 A2.g (A2.o + o2) = some old := by rw [(Turn.below hb4 rfl fun _ _ => False).wc _ _ (wcell_lt hold) (fun e => e)]; exact hold
          have hx : VR Φ π (.ptr b2 o2) (pv A2.g (A2.o + o2)) := by simp only [VR]; exact ⟨A2, hA2, rfl⟩
          have hy : VR Φ π (.ptr b o) (pv A.g (A.o + o)) := by simp only [VR]; exact ⟨A, hA, rfl⟩
          obtain ⟨_, w5, π', q1, q2, q3⟩ := store_sound (P := P) (slot := 0) (t := t) (v := .tup []) (u := .store b2 o2 [.ptr b o]) hr4 hx hy (by
            have e : ((V.ptr b o).cells.length == 1 && decide (o2 + 1 ≤ c.length) && (V.ptr b o).cells.all V.scalar) = true := by simp [V.cells, V.scalar]; omega
            simp only [storeAct, hb, hs, e, if_true]
            exact ⟨rfl, rfl⟩)
          have hsz : ∀ w : World, (sizeOf t).run P w = .ok 1 w := by
            intro w
            unfold sizeB at hs
            cases hi : P.info? t with
            | none => simp [hi] at hs
            | some i =>
              have : i.size = 1 := by simpa [hi] using hs
              simp [Go.sizeOf, typeInfo, hi, this]
          have q1' : (Instr.storeAt t (pv A2.g (A2.o + o2)) (pv A.g (A.o + o))).run P w4 = .ok () (w4.setCell ⟨A2.g, A2.o + o2, none⟩ (pv A.g (A.o + o))) := by
            simp only [pv, Instr.storeAt]
            simp [Instr.sureAddr, Instr.storeAt, storeVar, hsz, Value.cells, storeCells, Addr.add, Result.andThen]
            rw [run_store P w4 ⟨A2.g, A2.o + o2, none⟩ _ _ (by rfl)]
            simp [wcell_cell hold4, wcell_frozen hold4]
          rw [q1'] at q1
          cases q1
          exact ⟨_, Φ, π', rfl, Fr.ext.refl _ _, q2, by simpa [Upd.on, pv] using q3, by simp only [VR]⟩
        · cases h1
      · cases h1
    · cases h1
  · cases h1
end Go.Eng
