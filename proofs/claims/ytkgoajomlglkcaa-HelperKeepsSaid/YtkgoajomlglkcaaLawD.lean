import Derived.Test.YtkgoajomlglkcaaLawC
set_option linter.unusedVariables false
set_option linter.unusedSimpArgs false
set_option maxHeartbeats 4000000
set_option maxRecDepth 100000
namespace Go.Proofs.Ytkgoajomlglkcaa
open Go Go.Eng
variable {R : Type}
theorem copied_loop {m : Me} (hs : meSz m) {k : Me → Option R} : ∀ (j e t : Nat), t + j = m.length →
    P_mem_copied_3_0 W.big (e + j + 1) R m m.length (m.length : Int) (t : Int) (halfM m t) k = k m
  | 0, e, t, ht => by
    have : t = m.length := by omega
    subst this
    rw [P_mem_copied_3_0_s, br_neg (W.lt_irr _), half_all]
  | j + 1, e, t, ht => by
    have hl := half_len m (t := t) (by omega)
    have h1 := hs.1
    have h2 := hs.2 t
    have hb : W.and2 (W.le 0 (t : Int)) (W.lt (t : Int) (m.length : Int)) = true := by rw [W.and2_t, W.le_t, W.lt_t]; omega
    rw [P_mem_copied_3_0_s, br_pos (W.lt_t.2 (by omega))]
    simp only [W.len_eq, W.toNat_nat, W.get_eq, W.set_eq, W.succ64 (show t < 9223372036854775807 by omega), hb, br_t, W.ofNat_eq, get_set_eq (halfM m t) (show t < (halfM m t).length by omega)]
    rw [br_pos (by rw [W.and2_t, W.le_t, W.le_t, W.mul_eq]; omega)]
    have e1 : (W.rep (m.getD t []).length (0 : Int)).length = (m.getD t []).length := by unfold W.rep; simp
    rw [e1, minN_self, slice_all' _ (Nat.le_refl _), over_all _ _ (by unfold W.rep; simp), List.set_set, half_set m (by omega)]
    exact copied_loop hs j e (t + 1) (by omega)
theorem copied_eq (m : Me) (hs : meSz m) (k : Me → Option R) : F_mem_copied R m k = k m := by
  have h1 := hs.1
  simp only [F_mem_copied, N_mem_copied, W.len_eq, W.ofNat_eq, W.toNat_nat]
  rw [br_pos (by rw [W.and2_t, W.le_t, W.le_t, W.mul_eq]; omega)]
  have := copied_loop (R := R) (k := k) hs m.length (W.big - m.length - 1) 0 (by omega)
  rw [show W.big - m.length - 1 + m.length + 1 = W.big by unfold W.big; omega, half_zero] at this
  exact this
theorem copy_loop {m : Me} (hs : meSz m) {k : Me → Option R} : ∀ (j e t : Nat), t + j = m.length →
    P_clevisref02Copy_3_0 W.big (e + j + 1) R m t (t : Int) (m.take t) k = k m
  | 0, e, t, ht => by
    have : t = m.length := by omega
    subst this
    rw [P_clevisref02Copy_3_0_s, W.len_eq, W.ofNat_eq, br_neg (W.lt_irr _), List.take_length]
  | j + 1, e, t, ht => by
    have h1 := hs.1
    have h2 := hs.2 t
    have hb : W.and2 (W.le 0 (t : Int)) (W.lt (t : Int) (W.ofNat m.length)) = true := inb (by omega)
    rw [P_clevisref02Copy_3_0_s, W.len_eq, br_pos (W.lt_t.2 (by rw [W.ofNat_eq]; omega)), br_pos hb, W.toNat_nat, W.get_eq, W.len_eq]
    rw [br_pos (by rw [W.leN_t]; unfold W.mulN; omega), br_pos (by rw [W.leN_t]; unfold W.mulN W.addN; omega), W.succ64 (by omega)]
    have e1 : W.app (m.take t) [m.getD t []] = m.take (t + 1) := (take_succ_D (by omega) _).symm
    rw [e1]
    exact copy_loop hs j e (t + 1) (by omega)
theorem copy_eq (m : Me) (hs : meSz m) (k : Me → Option R) : F_clevisref02Copy R m k = k m := by
  have h1 := hs.1
  simp only [F_clevisref02Copy, N_clevisref02Copy]
  have := copy_loop (R := R) (k := k) hs m.length (W.big - m.length - 1) 0 (by omega)
  rw [show W.big - m.length - 1 + m.length + 1 = W.big by unfold W.big; omega] at this
  exact this
theorem region_ix {a : Int} (ha : p64 a) : W.wrap .i64 (W.sub (a / 4294967296) 1) = a / 4294967296 - 1 := by
  unfold p64 at ha; rw [W.sub_eq, W.wi64_id (by omega) (by omega)]
open Classical in
theorem bytesM_eq (l : La) (m : Me) (a n : Int) (hm : m.length ≤ 140737488351232) (ha : p64 a) (k : List Int × Int → Option R) : F_mem_Bytes R (l, m, a, n) k = k (bytesP l m a n) := by
  have hmay := may_eq (R := R) l m hm
  have hacc := access_eq (R := R) l a n false ha
  have hok := acc_ok (l := l) (m := m) (a := a) (n := n) (w := false)
  obtain ⟨⟨(c : Int), (cw : Bool)⟩, (ms : List Ar)⟩ := l
  simp only [F_mem_Bytes, N_mem_Bytes, hmay, hacc, bytesP, W.not_eq, br_n, br_d]
  by_cases h1 : mayP ((c, cw), ms) m
  · rw [if_pos h1, if_neg (by simpa using h1)]
    by_cases h2 : accP ((c, cw), ms) a n false = 0
    · obtain ⟨q1, q2, q3, q4, q5, q6, q7, _⟩ := hok h1 ha.1 h2
      rw [br_neg (by rw [W.ne_d]; simpa using h2), if_neg (by simpa using h2)]
      simp only [split_eq a ha, region_ix ha]
      have e0 : (a / 4294967296 - 1) = (((a / 4294967296 - 1).toNat : Nat) : Int) := by omega
      rw [br_pos (by rw [W.and2_t, W.le_t, W.le_t, W.mul_eq, W.ofNat_eq]; omega), br_pos (by rw [W.and2_t, W.le_t, W.lt_t, W.ofNat_eq, W.len_eq]; omega)]
      have e1 : W.get m (W.toNat (a / 4294967296 - 1)) [] = rowOf m a := rfl
      rw [e1, br_pos (by rw [W.and2_t, W.le_t, W.le_t, W.ofNat_eq, W.len_eq]; omega)]
      congr 2
      have e2 : W.slice (rowOf m a) (W.toNat (a % 4294967296)) (W.subN (W.len (rowOf m a)) (W.toNat (a % 4294967296))) = (rowOf m a).drop (a % 4294967296).toNat := by
        unfold W.slice W.subN W.toNat W.len; exact List.take_of_length_le (by simp)
      rw [e2]
      have e3 : W.minN (W.len ((rowOf m a).drop (a % 4294967296).toNat)) (W.toNat n) = n.toNat := by
        rw [minN_ge (by rw [W.len_eq]; unfold W.toNat; simp; omega)]; rfl
      rw [e3]
      have e4 : W.slice ((rowOf m a).drop (a % 4294967296).toNat) 0 n.toNat = ((rowOf m a).drop (a % 4294967296).toNat).take n.toNat := by unfold W.slice; simp
      rw [e4, over_all _ _ (by unfold W.rep W.toNat; simp; omega)]
    · rw [br_pos (by rw [W.ne_d]; simpa using h2), if_pos h2]
  · rw [if_neg h1, if_pos h1]
open Classical in
theorem rbytes_eq (l : La) (m : Me) (a n : Int) (hm : m.length ≤ 140737488351232) (ha : p64 a) (k : List Int × Int → Option R) : F_clevisref02Bytes R (l, m, a, n) k = k (bytesP l m a n) := by
  have hmay := rmay_eq (R := R) l m hm
  have hacc := raccess_eq (R := R) l a n false ha
  have hok := acc_ok (l := l) (m := m) (a := a) (n := n) (w := false)
  have hms := may_sz (l := l) (m := m)
  obtain ⟨⟨(c : Int), (cw : Bool)⟩, (ms : List Ar)⟩ := l
  simp only [F_clevisref02Bytes, N_clevisref02Bytes, F_clevisref02asked, N_clevisref02asked, hmay, hacc, bytesP, W.not_eq, br_n, br_d]
  by_cases h1 : mayP ((c, cw), ms) m
  · rw [if_pos h1, if_neg (by simpa using h1)]
    by_cases h2 : accP ((c, cw), ms) a n false = 0
    · obtain ⟨q1, q2, q3, q4, q5, q6, q7, _⟩ := hok h1 ha.1 h2
      have hr := (hms h1).2 (a / 4294967296 - 1).toNat
      have hr : (rowOf m a).length ≤ 140737488351232 := hr
      rw [br_neg (by rw [W.ne_d]; simpa using h2), if_neg (by simpa using h2)]
      have e5 : W.wrap .i64 (W.add (a % 4294967296) n) = a % 4294967296 + n := by rw [W.add_eq, W.wi64_id (by omega) (by omega)]
      simp only [rsplit_eq a ha, region_ix ha, e5]
      rw [br_pos (by rw [W.and2_t, W.le_t, W.lt_t, W.ofNat_eq, W.len_eq]; omega)]
      have e1 : W.get m (W.toNat (a / 4294967296 - 1)) [] = rowOf m a := rfl
      rw [e1, br_pos (by rw [W.and2_t, W.and2_t, W.le_t, W.le_t, W.le_t, W.ofNat_eq, W.len_eq]; omega)]
      have e2 : W.slice (rowOf m a) (W.toNat (a % 4294967296)) (W.subN (W.toNat (a % 4294967296 + n)) (W.toNat (a % 4294967296))) = ((rowOf m a).drop (a % 4294967296).toNat).take n.toNat := by
        have : W.subN (W.toNat (a % 4294967296 + n)) (W.toNat (a % 4294967296)) = n.toNat := by unfold W.subN W.toNat; omega
        rw [this]; rfl
      rw [e2, br_pos (by rw [W.leN_t]; unfold W.mulN W.len; simp; omega)]
    · rw [br_pos (by rw [W.ne_d]; simpa using h2), if_pos h2]
  · rw [if_neg h1, if_pos h1, br_pos (by decide)]
open Classical in
theorem fillM_eq (l : La) (m : Me) (a : Int) (b : List Int) (hm : m.length ≤ 140737488351232) (ha : p64 a) (k : Me × Int → Option R) : F_mem_Fill R (l, m, a, b) k = k (fillP l m a b) := by
  have hmay := may_eq (R := R) l m hm
  have hacc := access_eq (R := R) l a (b.length : Int) true ha
  have hok := acc_ok (l := l) (m := m) (a := a) (n := b.length) (w := true)
  have hms := may_sz (l := l) (m := m)
  obtain ⟨⟨(c : Int), (cw : Bool)⟩, (ms : List Ar)⟩ := l
  simp only [F_mem_Fill, N_mem_Fill, hmay, W.len_eq, W.ofNat_eq, hacc, fillP, W.not_eq, br_n, br_d]
  by_cases h1 : mayP ((c, cw), ms) m
  · rw [if_pos h1, if_neg (by simpa using h1)]
    by_cases h2 : accP ((c, cw), ms) a b.length true = 0
    · obtain ⟨q1, q2, q3, q4, q5, q6, q7, _⟩ := hok h1 ha.1 h2
      rw [br_neg (by rw [W.ne_d]; simpa using h2), if_neg (by simpa using h2)]
      simp only [split_eq a ha, region_ix ha, copied_eq m (hms h1)]
      rw [br_pos (by rw [W.and2_t, W.le_t, W.lt_t]; omega)]
      have e1 : W.get m (W.toNat (a / 4294967296 - 1)) [] = rowOf m a := rfl
      rw [e1, br_pos (by rw [W.and2_t, W.le_t, W.le_t]; omega)]
      have e2 : W.minN b.length (W.subN (rowOf m a).length (W.toNat (a % 4294967296))) = b.length := minN_le' (by unfold W.subN W.toNat; omega)
      rw [e2, slice_all' _ (Nat.le_refl _)]
      have e3 : W.addN 0 (W.toNat (a % 4294967296)) = (a % 4294967296).toNat := by unfold W.addN W.toNat; omega
      rw [e3]; rfl
    · rw [br_pos (by rw [W.ne_d]; simpa using h2), if_pos h2]
  · rw [if_neg h1, if_pos h1]
theorem rfill_loop {m : Me} {a : Int} {b : List Int} (h3 : 1 ≤ a / 4294967296) (h3' : a / 4294967296 < 4294967296) (h4 : (a / 4294967296 - 1).toNat < m.length) (h5 : 0 ≤ a % 4294967296) (h6 : a % 4294967296 + b.length ≤ (rowOf m a).length) (hb : b.length ≤ 4096)
    {k : Me × Int → Option R} : ∀ (j e t : Nat), t + j = b.length →
    P_clevisref02Fill_7_0 F_clevisref02Copy F_clevisref02Split F_clevisref02asked W.big (e + j + 1) R b (a / 4294967296) (a % 4294967296) m.length (t : Int) (putRow m a (b.take t)) k = k (putRow m a b, 0)
  | 0, e, t, ht => by
    have : t = b.length := by omega
    subst this
    rw [P_clevisref02Fill_7_0_s, W.len_eq, W.ofNat_eq, br_neg (W.lt_irr _), List.take_length]
  | j + 1, e, t, ht => by
    have e1 : W.wrap .i64 (W.sub (a / 4294967296) 1) = a / 4294967296 - 1 := by rw [W.sub_eq, W.wi64_id (by omega) (by omega)]
    have e2 : W.wrap .i64 (W.add (a % 4294967296) (t : Int)) = a % 4294967296 + t := by rw [W.add_eq, W.wi64_id (by omega) (by omega)]
    have e3 : W.get (putRow m a (b.take t)) (W.toNat (a / 4294967296 - 1)) [] = W.over (rowOf m a) (a % 4294967296).toNat (b.take t) := by
      unfold putRow; rw [W.get_eq]; exact get_set_eq _ h4 _ _
    have e4 : (W.over (rowOf m a) (a % 4294967296).toNat (b.take t)).length = (rowOf m a).length := over_len (by simp; omega)
    have e5 : W.addN 0 (W.toNat (a % 4294967296 + t)) = (a % 4294967296).toNat + t := by unfold W.addN W.toNat; omega
    have e7 : W.set (W.over (rowOf m a) (a % 4294967296).toNat (b.take t)) ((a % 4294967296).toNat + t) (b.getD t 0) = W.over (rowOf m a) (a % 4294967296).toNat (b.take (t + 1)) := by rw [W.set_eq]; exact over_take (by omega) (by omega)
    rw [P_clevisref02Fill_7_0_s, W.len_eq, br_pos (W.lt_t.2 (by rw [W.ofNat_eq]; omega)), e1, e2, e3, br_pos (by rw [W.and2_t, W.le_t, W.lt_t, W.ofNat_eq]; omega), br_pos (inb (by omega)),
      br_pos (by rw [W.and2_t, W.le_t, W.lt_t, W.ofNat_eq, W.len_eq, e4]; omega), W.succ64 (by omega), e5, W.toNat_nat, W.get_eq b, e7]
    have e6 : W.set (putRow m a (b.take t)) (W.toNat (a / 4294967296 - 1)) (W.over (rowOf m a) (a % 4294967296).toNat (b.take (t + 1))) = putRow m a (b.take (t + 1)) := by
      unfold putRow; rw [W.set_eq]; exact List.set_set ..
    rw [e6]
    exact rfill_loop h3 h3' h4 h5 h6 hb j e (t + 1) (by omega)
open Classical in
theorem rfillM_eq (l : La) (m : Me) (a : Int) (b : List Int) (hm : m.length ≤ 140737488351232) (ha : p64 a) (k : Me × Int → Option R) : F_clevisref02Fill R (l, m, a, b) k = k (fillP l m a b) := by
  have hmay := rmay_eq (R := R) l m hm
  have hacc := raccess_eq (R := R) l a (b.length : Int) true ha
  have hok := acc_ok (l := l) (m := m) (a := a) (n := b.length) (w := true)
  have hms := may_sz (l := l) (m := m)
  have hpa := ha; unfold p64 at hpa
  obtain ⟨⟨(c : Int), (cw : Bool)⟩, (ms : List Ar)⟩ := l
  simp only [F_clevisref02Fill, N_clevisref02Fill, F_clevisref02asked, N_clevisref02asked, hmay, W.len_eq, W.ofNat_eq, hacc, fillP, W.not_eq, br_n, br_d]
  by_cases h1 : mayP ((c, cw), ms) m
  · rw [if_pos h1, if_neg (by simpa using h1)]
    by_cases h2 : accP ((c, cw), ms) a b.length true = 0
    · obtain ⟨q1, q2, q3, q4, q5, q6, q7, _⟩ := hok h1 ha.1 h2
      rw [br_neg (by rw [W.ne_d]; simpa using h2), if_neg (by simpa using h2)]
      simp only [rsplit_eq a ha, copy_eq m (hms h1)]
      have := rfill_loop (R := R) (m := m) (a := a) (b := b) (k := k) q3 (by omega) q4 q5 q6 (by omega) b.length (W.big - b.length - 1) 0 (by omega)
      rw [show W.big - b.length - 1 + b.length + 1 = W.big by unfold W.big; omega] at this
      have e0 : putRow m a (b.take 0) = m := by
        unfold putRow
        rw [List.take_zero, over_nil]
        apply List.ext_getElem?
        intro i
        rw [List.getElem?_set]
        by_cases hi : (a / 4294967296 - 1).toNat = i
        · rw [if_pos hi, if_pos q4]; subst hi
          unfold rowOf
          rw [List.getD_eq_getElem?_getD, List.getElem?_eq_getElem q4]; rfl
        · rw [if_neg hi]
      rw [e0] at this
      exact this
    · rw [br_pos (by rw [W.ne_d]; simpa using h2), if_pos h2]
  · rw [if_neg h1, if_pos h1, br_pos (by decide)]
end Go.Proofs.Ytkgoajomlglkcaa
