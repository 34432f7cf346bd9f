/- The engine, part G: one operation. -/
import Derived.Test.YtflkcceicgaipaaEngF
set_option linter.unusedVariables false
set_option linter.unusedSimpArgs false
namespace Go.Eng
open Go Go.RowKit

section
variable {w0 w w1 : World} {π : Pi} {P : Program} {h : List Blk} {slot : Nat} {v : V} {u : Upd}

theorem loadV_sound {t : TypeId} {c : List V} {off g o : Nat} {cs : List Value} (hc : VRL w0 π c cs) (hcell : ∀ (j : Nat) (u : Value), cs[j]? = some u → w.cell? ⟨g, o + j, none⟩ = some u)
    (he : EffTo P slot h (partV P t c off) v u) : u = .no ∧ ∃ cv, (loadVar t ⟨g, o + off, none⟩).run P w = .ok cv w ∧ VR w0 π v cv := by
  unfold partV at he
  split at he
  · rename_i n hag hs
    split at he
    · rename_i hl
      obtain ⟨rfl, rfl⟩ := he
      have hl' := VRL.length hc
      have hlen : ((cs.drop off).take n).length = n := by simp; omega
      have hr := run_loadCells_list (P := P) w ⟨g, o + off, none⟩ ((cs.drop off).take n) (by
        intro j u hj
        have hadd : (⟨g, o + off, none⟩ : Addr).add j = ⟨g, o + off + j, none⟩ := by unfold Addr.add; split <;> simp_all
        rw [hadd, Nat.add_assoc]
        refine hcell (off + j) u ?_
        rw [List.getElem?_take] at hj
        split at hj
        · rw [List.getElem?_drop] at hj; exact hj
        · cases hj)
      rw [hlen] at hr
      refine ⟨rfl, .agg ((cs.drop off).take n).toArray, by simp [loadVar, isAggB_run hag, sizeB_run hs, hr], ?_⟩
      simp only [VR]
      exact ⟨_, rfl, VRL.take _ (VRL.drop _ hc)⟩
    · exact he.elim
  · rename_i n hag hs
    split at he
    · rename_i x hx
      obtain ⟨rfl, rfl⟩ := he
      obtain ⟨c', hc', hv⟩ := VRL.get hc hx
      refine ⟨rfl, c', ?_, hv⟩
      have := hcell off c' hc'
      simp [loadVar, isAggB_run hag, this]
    · exact he.elim
  · exact he.elim

theorem load_sound {t : TypeId} {x : V} {cx : Value} (hr : HR w0 w1 π h w) (hx : VR w0 π x cx) (he : EffTo P slot h (loadAct P t x h) v u) :
    u = .no ∧ ∃ cv, (Instr.loadAt t cx).run P w = .ok cv w ∧ VR w0 π v cv := by
  unfold loadAct at he
  split at he
  · rename_i b off
    simp only [VR] at hx
    obtain ⟨g, hg, rfl⟩ := hx
    split at he
    · rename_i t' c hb
      obtain ⟨g', h1, _, _, h4⟩ := hr.live b _ hb (by simp)
      rw [hg] at h1; cases h1
      simp only [BR] at h4
      obtain ⟨cs, hcs, hc⟩ := h4
      obtain ⟨h5, cv, h6, h7⟩ := loadV_sound (w := w) (g := g) (o := 0) hc (fun j u hj => by rw [Nat.zero_add, cell_of_row w g j cs t' _ hcs]; simpa using hj) he
      rw [Nat.zero_add] at h6
      exact ⟨h5, cv, by simpa [Instr.loadAt, Instr.sureAddr] using h6, h7⟩
    · exact he.elim
  · rename_i tt x off
    simp only [VR] at hx
    obtain ⟨g, o, ds, rfl, hg, ht, hcell⟩ := hx
    obtain ⟨h5, cv, h6, h7⟩ := loadV_sound (w := w) (g := g) (o := o) (TR.vs (π := π) ht) (fun j u hj => by
      rw [(hr.base.trans (hr.below.mono hr.base.size)).cell (p := ⟨g, o + j, none⟩) hg]
      exact hcell j u hj) he
    exact ⟨h5, cv, by simpa [Instr.loadAt, Instr.sureAddr] using h6, h7⟩
  · exact he.elim

theorem store_sound {t : TypeId} {x y : V} {cx cy : Value} (hr : HR w0 w1 π h w) (hx : VR w0 π x cx) (hy : VR w0 π y cy) (he : EffTo P slot h (storeAct P t x y h) v u) :
    v = .tup [] ∧ ∃ w', (Instr.storeAt t cx cy).run P w = .ok () w' ∧ HR w0 w1 π (u.on h) w' := by
  unfold storeAct at he
  split at he
  · rename_i b off
    simp only [VR] at hx
    obtain ⟨g, hg, rfl⟩ := hx
    split at he
    · rename_i t' c n hb hs
      split at he
      · rename_i hl
        simp only [Bool.and_eq_true, beq_iff_eq, decide_eq_true_eq, List.all_eq_true] at hl
        obtain ⟨⟨hl1, hl2⟩, hl3⟩ := hl
        obtain ⟨rfl, rfl⟩ := he
        refine ⟨rfl, ?_⟩
        obtain ⟨g', h1, _, _, h4⟩ := hr.live b _ hb (by simp)
        rw [hg] at h1; cases h1
        simp only [BR] at h4
        obtain ⟨cs, hcs, hc⟩ := h4
        have hyk : y ≠ .any := by intro e; subst e; have := hl3 .any (by simp [V.cells]); simp [V.scalar] at this
        have hyc := VR.cells hy hyk
        have hlc := VRL.length hc
        have hly := VRL.length hyc
        simp only [Array.length_toList] at hlc hly
        have hone : ∀ c ∈ cy.cells.toList, c.oneCell' = true := by
          intro c hcm
          obtain ⟨i, hi⟩ := List.mem_iff_getElem?.1 hcm
          have hi' : i < y.cells.length := by
            have := (List.getElem?_eq_some_iff.1 hi).1
            simp at this; omega
          obtain ⟨u', hu', hv'⟩ := VRL.get hyc (List.getElem?_eq_getElem hi')
          rw [hi] at hu'; cases hu'
          exact VR.oneCell hv' (hl3 _ (List.getElem_mem hi'))
        obtain ⟨w', r1, r2, r3, r4, r5, r6, r7⟩ := run_storeCells (P := P) cy.cells.toList off 0 w cs hcs (by simp; omega) hone
        refine ⟨w', ?_, ?_⟩
        · simp only [Instr.storeAt, Instr.sureAddr, Sem.run_bind, Sem.run_pure, Result.andThen_ok, storeVar, sizeB_run hs]
          rw [if_neg (by simp; omega)]
          simpa using r1
        · have : Upd.on (.store b off y.cells) h = h.set b (.cells t' (List.splice c off y.cells)) := by simp [Upd.on, storeH, hb]
          rw [this]
          refine HR.turn hr hg ⟨_, hb, by simp⟩ (by simp) r5 r6 r7 r4 r3 ?_
          simp only [BR]
          exact ⟨_, r2, by simpa using VRL.splice off hc hyc⟩
      · exact he.elim
    · exact he.elim
  · exact he.elim

/-- What an operation comes to, as the walk of a region asks. -/
def Good (P : Program) (o : Oper) (a : Go.Act) (w : World) (R : Value → World → Prop) : Prop :=
  ∀ K Q, (∀ c w', R c w' → K (a.put o.dst c) w') → o.wp P a w K Q
theorem Good.value {o : Oper} {a : Go.Act} {R : Value → World → Prop} {c : Value} {w' : World} (hr : (execOp a.eval o).run P w = .ok (.value c) w') (h : R c w') : Good P o a w R := by
  intro K Q hk; unfold Oper.wp; rw [hr]; exact hk c w' h
theorem Good.skip {o : Oper} {a : Go.Act} {R : Value → World → Prop} {w' : World} (hr : (execOp a.eval o).run P w = .ok .skip w') (h : R undef w') : Good P o a w R := by
  intro K Q hk; unfold Oper.wp; rw [hr]; exact hk _ w' h
theorem Good.enter {o : Oper} {a : Go.Act} {R : Value → World → Prop} {g : FuncId} {args : Array Value} (hr : (execOp a.eval o).run P w = .ok (.enter g args) w)
    (h : Calls P g args w fun e w' => ∃ c, e = .returned c ∧ R c w') : Good P o a w R := by
  intro K Q hk; unfold Oper.wp; rw [hr]
  exact h.mono fun e w' ⟨c, he, hc⟩ => by subst he; exact hk c w' hc

/-- What is asked of the world behind an operation. -/
def Post (w0 w1 : World) (π : Pi) (h : List Blk) (v : V) (u : Upd) (c : Value) (w' : World) : Prop := ∃ π', π.le π' ∧ HR w0 w1 π' (u.on h) w' ∧ VR w0 π' v c

theorem Good.gives {o : Oper} {a : Go.Act} {x : Sem Value} (hex : execOp a.eval o = (do pure (.value (← x)))) (hr : HR w0 w1 π h w) (hg : u = .no ∧ Gives P w0 π x v) :
    Good P o a w (Post w0 w1 π h v u) := by
  obtain ⟨rfl, hg⟩ := hg
  obtain ⟨c, hc, hv⟩ := hg w
  exact Good.value (c := c) (w' := w) (by rw [hex]; simp [hc]) ⟨π, fun _ _ h => h, by simpa [Upd.on] using hr, hv⟩

mutual
theorem VR.noRefs {π' : Pi} : ∀ {x : V} {c : Value}, V.refs x = [] → VR w0 π x c → VR w0 π' x c
  | .any, _, _, _ => by simp [VR]
  | .bool b, v, _, hv => by simpa [VR] using hv
  | .int k n, v, _, hv => by simpa [VR] using hv
  | .str s, v, _, hv => by simpa [VR] using hv
  | .ptr b off, v, hn, hv => by simp [V.refs] at hn
  | .nilp, v, _, hv => by simpa [VR] using hv
  | .ro t l, v, _, hv => by simpa only [VR] using hv
  | .rop t x off, v, _, hv => by simpa only [VR] using hv
  | .sl _ _ _, v, _, hv => by simp [VR] at hv
  | .slp _ _ _, v, _, hv => by simp [VR] at hv
  | .nsl, v, _, hv => by simpa [VR] using hv
  | .fn f c, v, hn, hv => by simp only [VR, V.refs] at hn hv ⊢; obtain ⟨cs, e, hc⟩ := hv; exact ⟨cs, e, VRL.noRefs hn hc⟩
  | .nilf, v, _, hv => by simpa [VR] using hv
  | .iface t x, v, hn, hv => by simp only [VR, V.refs] at hn hv ⊢; obtain ⟨u, e, hc⟩ := hv; exact ⟨u, e, VR.noRefs hn hc⟩
  | .nili, v, _, hv => by simpa [VR] using hv
  | .agg l, v, hn, hv => by simp only [VR, V.refs] at hn hv ⊢; obtain ⟨cs, e, hc⟩ := hv; exact ⟨cs, e, VRL.noRefs hn hc⟩
  | .tup l, v, hn, hv => by simp only [VR, V.refs] at hn hv ⊢; obtain ⟨cs, e, hc⟩ := hv; exact ⟨cs, e, VRL.noRefs hn hc⟩
  | .map b, v, hn, hv => by simp [V.refs] at hn
theorem VRL.noRefs {π' : Pi} : ∀ {l : List V} {m : List Value}, V.refsL l = [] → VRL w0 π l m → VRL w0 π' l m
  | [], [], _, _ => by simp [VRL]
  | x :: l, v :: m, hn, hv => by
    simp only [V.refsL, List.append_eq_nil_iff] at hn
    simp only [VRL] at hv ⊢
    exact ⟨VR.noRefs hn.1 hv.1, VRL.noRefs hn.2 hv.2⟩
  | [], _ :: _, _, hv => by simp [VRL] at hv
  | _ :: _, [], _, hv => by simp [VRL] at hv
end
end
end Go.Eng
