import Derived.Test.YtkgoajomlglkcaaLawD
set_option linter.unusedVariables false
set_option linter.unusedSimpArgs false
set_option maxHeartbeats 4000000
set_option maxRecDepth 100000
namespace Go.Proofs.Ytkgoajomlglkcaa
open Go Go.Eng
variable {R : Type}
open Classical in
theorem rload_eq (l : La) (m : Me) (a n : Int) (hm : m.length ≤ 140737488351232) (hok : meOk m) (ha : p64 a) (k : Int × Int → Option R) : F_clevisref02Load R (l, m, a, n) k = k (loadP l m a n) := by
  have hb := rbytes_eq (R := R) l m a n hm ha
  have hbo := bytesP_ok (l := l) (a := a) (n := n) hok
  obtain ⟨⟨(c : Int), (cw : Bool)⟩, (ms : List Ar)⟩ := l
  simp only [F_clevisref02Load, N_clevisref02Load, rsize_eq n, W.not_eq, br_n, loadP, hb, rget_eq (bytesP ((c, cw), ms) m a n).1 hbo]
  by_cases h : sz n = true
  · rw [if_pos h, br_pos h]
  · rw [if_neg h, br_neg (by simpa using h)]
open Classical in
theorem sameM_eq (a b : Me) (ha : meSz a) (hb : meSz b) (oa : meOk a) (ob : meOk b) (k : Bool → Option R) : F_clevisref02Same R (a, b) k = k (decide (a = b)) := by
  have h1 := ha.1
  simp only [F_clevisref02Same, N_clevisref02Same, W.len_eq, W.ofNat_eq, W.ne_d, br_d]
  by_cases hl : a.length = b.length
  · rw [if_neg (by omega)]
    have := loop_all (P := fun n i => P_clevisref02Same_4_0 F_clevisref01Same W.big n R a b i k) (N := a.length) (c := fun i => a.getD i [] = b.getD i []) (kt := k true) (kf := k false)
      (fun n t ht => by
        have h2 := ha.2 t
        have h3 := hb.2 t
        rw [P_clevisref02Same_4_0_s, br_pos (W.lt_t.2 (by rw [W.ofNat_eq, W.len_eq]; omega)), br_pos (inb (by rw [W.len_eq]; omega)), br_pos (inb (by rw [W.len_eq]; omega)), W.toNat_nat, W.get_eq, W.get_eq,
          same_eq _ _ (by omega) (by omega) (oa t) (ob t), W.succ64 (by omega), W.not_eq, br_nd]
        split <;> rfl)
      (fun n => by rw [P_clevisref02Same_4_0_s, br_neg (by rw [Bool.eq_false_iff]; intro h'; rw [W.lt_t, W.ofNat_eq, W.len_eq] at h'; omega)]) a.length W.big 0 (by omega) (big_lt (by omega))
    rw [show ((0 : Nat) : Int) = 0 from rfl] at this
    rw [this, kb_ite]
    congr 1
    refine decide_eq_decide.2 ⟨fun h => ?_, fun h i _ _ => by rw [h]⟩
    apply List.ext_getElem hl
    intro i h1 h2
    have := h i (by omega) h1
    rw [List.getD_eq_getElem?_getD, List.getD_eq_getElem?_getD, List.getElem?_eq_getElem h1, List.getElem?_eq_getElem h2] at this
    simpa using this
  · rw [if_pos (by omega), decide_eq_false (fun h => hl (by rw [h]))]
end Go.Proofs.Ytkgoajomlglkcaa
