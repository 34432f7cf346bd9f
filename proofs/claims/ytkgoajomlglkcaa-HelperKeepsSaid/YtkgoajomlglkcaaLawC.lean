import Derived.Test.YtkgoajomlglkcaaLawB
set_option linter.unusedVariables false
set_option linter.unusedSimpArgs false
set_option maxHeartbeats 4000000
set_option maxRecDepth 100000
namespace Go.Proofs.Ytkgoajomlglkcaa
open Go Go.Eng
variable {R : Type}
open Classical in
theorem may_iff {l : La} {m : Me} (h : layOK l) (hl : (areasP l).length = m.length) : mayP l m ↔ ∀ i, 0 ≤ i → i < m.length → ((m.getD i []).length : Int) = ((areasP l).getD i (0, false)).1 := by
  unfold mayP
  refine ⟨fun h i _ hi => h.2.2 i hi, fun h' => ⟨by rw [layOK_areas h]; simp, hl, fun i hi => h' i (by omega) hi⟩⟩
open Classical in
theorem may_eq (l : La) (m : Me) (hm : m.length ≤ 140737488351232) (k : Bool → Option R) : F_mem_May R (l, m) k = k (decide (mayP l m)) := by
  have hal := areas_len (l := l)
  obtain ⟨⟨(c : Int), (w : Bool)⟩, (ms : List Ar)⟩ := l
  simp only [F_mem_May, N_mem_May, areas_eq]
  by_cases h : layOK ((c, w), ms) ∧ (areasP ((c, w), ms)).length = m.length
  · obtain ⟨h, hl⟩ := h
    have h0 : 0 < (areasP ((c, w), ms)).length := by rw [layOK_areas h]; simp
    rw [br_neg (by rw [Bool.eq_false_iff]; intro h'; simp only [W.picko_t, W.eq_t, W.ne_t, W.ofNat_eq, W.len_eq] at h'; omega)]
    have := loop_all (P := fun n i => P_mem_May_5_0 F_mem_areas W.big n R m (areasP ((c, w), ms)) (W.ofNat (W.len (areasP ((c, w), ms)))) i k) (N := m.length)
      (c := fun i => ((m.getD i []).length : Int) = ((areasP ((c, w), ms)).getD i (0, false)).1) (kt := k true) (kf := k false)
      (fun n t ht => by
        rw [P_mem_May_5_0_s, br_pos (W.lt_t.2 (by rw [W.ofNat_eq, W.len_eq]; omega)), br_pos (inb (by rw [W.len_eq]; omega)), br_pos (inb (by rw [W.len_eq]; omega))]
        rw [W.toNat_nat, W.get_eq, W.get_eq, W.succ64 (by omega), W.ofNat_eq, W.len_eq, W.ne_d, br_d]
        by_cases hc : ((m.getD t []).length : Int) = ((areasP ((c, w), ms)).getD t (0, false)).1
        · rw [if_neg (by simpa using hc), if_pos hc]
        · rw [if_pos hc, if_neg hc])
      (fun n => by rw [P_mem_May_5_0_s, br_neg (by rw [Bool.eq_false_iff]; intro h'; rw [W.lt_t, W.ofNat_eq, W.len_eq] at h'; omega)]) m.length W.big 0 (by omega) (big_lt (by omega))
    rw [show ((0 : Nat) : Int) = 0 from rfl] at this
    rw [this, kb_ite]
    congr 1
    exact decide_eq_decide.2 (may_iff h hl).symm
  · have hn : ¬ mayP ((c, w), ms) m := fun h' => h ⟨may_lay h', h'.2.1⟩
    rw [br_pos, decide_eq_false hn]
    simp only [W.picko_t, W.eq_t, W.ne_t, W.ofNat_eq, W.len_eq]
    by_cases hL : layOK ((c, w), ms)
    · right; intro h'; exact h ⟨hL, by omega⟩
    · left; rw [not_layOK_areas hL]; rfl
open Classical in
theorem rmay_eq (l : La) (m : Me) (hm : m.length ≤ 140737488351232) (k : Bool → Option R) : F_clevisref02May R (l, m) k = k (decide (mayP l m)) := by
  obtain ⟨⟨(c : Int), (w : Bool)⟩, (ms : List Ar)⟩ := l
  simp only [F_clevisref02May, N_clevisref02May, rCheck2_eq]
  by_cases h : layOK ((c, w), ms) ∧ (areasP ((c, w), ms)).length = m.length
  · obtain ⟨h, hl⟩ := h
    have hms := h.2.1; simp only at hms
    have hla : (areasP ((c, w), ms)).length = ms.length + 2 := by rw [layOK_areas h]; rfl
    have e2 : W.wrap .i64 (W.add 2 (W.ofNat (W.len ms))) = 2 + (ms.length : Int) := by rw [W.add_eq, W.ofNat_eq, W.len_eq, W.wi64_id (by omega) (by omega)]
    unfold chkLP
    rw [if_pos h, br_neg (by rw [Bool.eq_false_iff]; intro h'; rw [W.picko_t, W.ne_t, W.ne_t, e2, W.ofNat_eq, W.len_eq] at h'; omega)]
    have := loop_all (P := fun n i => P_clevisref02May_4_0 F_clevisref02Check F_clevisref02Area W.big n R m i c w ms k) (N := m.length)
      (c := fun i => ((m.getD i []).length : Int) = ((areasP ((c, w), ms)).getD i (0, false)).1) (kt := k true) (kf := k false)
      (fun n t ht => by
        have e1 : W.wrap .i64 (W.add (t : Int) 1) = ((t + 1 : Nat) : Int) := W.succ64 (by omega)
        have hw : wfI .i64 ((t + 1 : Nat) : Int) := by rw [wfI_iff]; simp [IntKind.min, IntKind.max, IntKind.signed, IntKind.bits]; omega
        have ea : areaP ((c, w), ms) ((t + 1 : Nat) : Int) = ((areasP ((c, w), ms)).getD t (0, false), true) := by
          unfold areaP; rw [if_pos (by omega)]
          have : (((t + 1 : Nat) : Int) - 1).toNat = t := by omega
          rw [this]
        rw [P_clevisref02May_4_0_s, br_pos (W.lt_t.2 (by rw [W.ofNat_eq, W.len_eq]; omega)), e1]
        simp only [rarea_eq _ _ hw, ea]
        rw [br_pos (inb (by rw [W.len_eq]; omega))]
        rw [W.toNat_nat, W.get_eq, W.ofNat_eq, W.len_eq, W.ne_d, br_d]
        by_cases hc : ((m.getD t []).length : Int) = ((areasP ((c, w), ms)).getD t (0, false)).1
        · rw [if_neg (by simpa using hc), if_pos hc]
        · rw [if_pos hc, if_neg hc])
      (fun n => by rw [P_clevisref02May_4_0_s, br_neg (by rw [Bool.eq_false_iff]; intro h'; rw [W.lt_t, W.ofNat_eq, W.len_eq] at h'; omega)]) m.length W.big 0 (by omega) (big_lt (by omega))
    rw [show ((0 : Nat) : Int) = 0 from rfl] at this
    rw [this, kb_ite]
    congr 1
    exact decide_eq_decide.2 (may_iff h hl).symm
  · have hn : ¬ mayP ((c, w), ms) m := fun h' => h ⟨may_lay h', h'.2.1⟩
    rw [br_pos, decide_eq_false hn]
    rw [W.picko_t, W.ne_t, W.ne_t]
    by_cases hL : layOK ((c, w), ms)
    · right
      have hms := hL.2.1; simp only at hms
      have hla : (areasP ((c, w), ms)).length = ms.length + 2 := by rw [layOK_areas hL]; rfl
      have e2 : W.wrap .i64 (W.add 2 (W.ofNat (W.len ms))) = 2 + (ms.length : Int) := by rw [W.add_eq, W.ofNat_eq, W.len_eq, W.wi64_id (by omega) (by omega)]
      rw [e2, W.ofNat_eq, W.len_eq]
      intro h'; exact h ⟨hL, by omega⟩
    · left; unfold chkLP; rw [if_neg hL]; decide
/-- The noughts of the first areas. -/
theorem take_succ_get {l : List Ar} {t : Nat} (h : t < l.length) : (l.take (t + 1)) = l.take t ++ [l.getD t (0, false)] := by
  rw [List.take_add_one, List.getD_eq_getElem?_getD, List.getElem?_eq_getElem h]; rfl
theorem rfresh_loop {c : Int} {w : Bool} {ms : List Ar} (h : layOK ((c, w), ms)) {k : Me × Int → Option R} : ∀ (m e t : Nat), t + m = (areasP ((c, w), ms)).length →
    P_clevisref02Fresh_5_0 F_clevisref02Check F_clevisref02Area W.big (e + m + 1) R t (t : Int) c w ms (((areasP ((c, w), ms)).take t).map fun a => List.replicate a.1.toNat 0) k = k (freshP ((c, w), ms), 0)
  | 0, e, t, ht => by
    have hms := h.2.1; simp only at hms
    have hla : (areasP ((c, w), ms)).length = ms.length + 2 := by rw [layOK_areas h]; rfl
    have e2 : W.wrap .i64 (W.add 2 (W.ofNat (W.len ms))) = 2 + (ms.length : Int) := by rw [W.add_eq, W.ofNat_eq, W.len_eq, W.wi64_id (by omega) (by omega)]
    rw [P_clevisref02Fresh_5_0_s, br_neg (by rw [Bool.eq_false_iff]; intro h'; rw [W.lt_t, e2] at h'; omega), show t = (areasP ((c, w), ms)).length by omega, List.take_length]
    rfl
  | m + 1, e, t, ht => by
    have hms := h.2.1; simp only at hms
    have hla : (areasP ((c, w), ms)).length = ms.length + 2 := by rw [layOK_areas h]; rfl
    have e2 : W.wrap .i64 (W.add 2 (W.ofNat (W.len ms))) = 2 + (ms.length : Int) := by rw [W.add_eq, W.ofNat_eq, W.len_eq, W.wi64_id (by omega) (by omega)]
    have h1 := areas_get (l := ((c, w), ms)) t
    have hw : wfI .i64 ((t + 1 : Nat) : Int) := by rw [wfI_iff]; simp [IntKind.min, IntKind.max, IntKind.signed, IntKind.bits]; omega
    have ea : areaP ((c, w), ms) ((t + 1 : Nat) : Int) = ((areasP ((c, w), ms)).getD t (0, false), true) := by
      unfold areaP; rw [if_pos (by omega)]
      have : (((t + 1 : Nat) : Int) - 1).toNat = t := by omega
      rw [this]
    rw [P_clevisref02Fresh_5_0_s, br_pos (W.lt_t.2 (by rw [e2]; omega)), W.succ64 (by omega)]
    simp only [rarea_eq _ _ hw, ea]
    rw [br_pos (by rw [W.and2_t, W.le_t, W.le_t, W.mul_eq, W.ofNat_eq]; omega), br_pos (by rw [W.leN_t]; unfold W.mulN W.addN; omega)]
    have e1 : W.app (((areasP ((c, w), ms)).take t).map fun a => List.replicate a.1.toNat (0 : Int)) [W.rep (W.toNat ((areasP ((c, w), ms)).getD t (0, false)).1) 0] = ((areasP ((c, w), ms)).take (t + 1)).map fun a => List.replicate a.1.toNat 0 := by
      rw [take_succ_get (by omega)]; simp only [List.map_append, List.map_cons, List.map_nil, W.app, W.rep, W.toNat]
    rw [e1]
    exact rfresh_loop h m e (t + 1) (by omega)
open Classical in
theorem rfreshM_eq (l : La) (k : Me × Int → Option R) : F_clevisref02Fresh R l k = k (freshP l, chkLP l) := by
  have hal := areas_len (l := l)
  obtain ⟨⟨(c : Int), (w : Bool)⟩, (ms : List Ar)⟩ := l
  simp only [F_clevisref02Fresh, N_clevisref02Fresh, rCheck2_eq]
  by_cases h : layOK ((c, w), ms)
  · have := rfresh_loop (R := R) (k := k) h (areasP ((c, w), ms)).length (W.big - (areasP ((c, w), ms)).length - 1) 0 (by omega)
    rw [show W.big - (areasP ((c, w), ms)).length - 1 + (areasP ((c, w), ms)).length + 1 = W.big by unfold W.big; omega] at this
    unfold chkLP
    rw [if_pos h, br_neg (by simp [W.ne_d])]
    exact this
  · unfold chkLP freshP
    rw [if_neg h, br_pos (by simp [W.ne_d]), not_layOK_areas h]; rfl
end Go.Proofs.Ytkgoajomlglkcaa
