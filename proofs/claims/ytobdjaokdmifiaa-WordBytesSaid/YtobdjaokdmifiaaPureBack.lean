import Derived.Test.YtobdjaokdmifiaaPureBytes
set_option linter.unusedVariables false
set_option linter.unusedSimpArgs false
set_option maxHeartbeats 4000000
set_option maxRecDepth 100000
namespace Go.Proofs.Ytobdjaokdmifiaa
open Go Go.Eng
variable {R : Type}
def sz (n : Int) : Bool := decide (n = 1 ∨ n = 2 ∨ n = 4 ∨ n = 8)
theorem size_eq (n : Int) (hn : wfI .i64 n) (k : Bool → Option R) : F_word_Size R n k = k (sz n) := by
  simp only [F_word_Size, N_word_Size]
  congr 1
  by_cases h : 1 ≤ n ∧ n ≤ 8
  · have : n = 1 ∨ n = 2 ∨ n = 3 ∨ n = 4 ∨ n = 5 ∨ n = 6 ∨ n = 7 ∨ n = 8 := by omega
    rcases this with h | h | h | h | h | h | h | h <;> subst h <;> decide +kernel
  · have h1 : W.pick (W.gt n 0) (W.le n 8) false = false := by
      cases hp : W.pick (W.gt n 0) (W.le n 8) false with
      | false => rfl
      | true => rw [W.pickf_t, W.gt_t, W.le_t] at hp; omega
    rw [h1]
    have : sz n = false := by simp [sz]; omega
    rw [this]; rfl
theorem rsize_eq (n : Int) (k : Bool → Option R) : F_clevisref01Size R n k = k (sz n) := by
  simp only [F_clevisref01Size, N_clevisref01Size]
  congr 1
  rw [Bool.eq_iff_iff]
  simp only [W.picko_t, W.eq_t, sz, decide_eq_true_eq]
  omega
/-- A number's bytes. -/
def by8 (x : Int) (i : Nat) : Int := x / 256 ^ i % 256
theorem byte_of {x : Int} {i : Nat} (hi : i < 8) : W.wrap .u8 (W.shr .u64 x ((8 * i : Nat) : Int)) = by8 x i := by
  unfold W.shr by8
  have : min ((8 * i : Nat) : Int).toNat IntKind.u64.bits = 8 * i := by simp [IntKind.bits]; omega
  rw [this, Int.fdiv_eq_ediv_of_nonneg _ (Int.pow_nonneg (by omega)), W.wu8, Int.pow_mul]
  rfl
def bytesN (x n : Int) : List Int := if sz n then (List.range n.toNat).map (by8 x) else []
def upTo (x : Int) (t : Nat) : List Int := (List.range 8).map fun i => if i < t then by8 x i else 0
theorem put_loop {F : FT ps_word_Size qs_word_Size} {fl : Nat} {x n : Int} (hn : 0 ≤ n ∧ n ≤ 8) {k : List Int → Option R} : ∀ (m e t : Nat), t + m = 8 →
    P_word_Put_5_0 F fl (e + m + 1) R x n (t : Int) (upTo x t) k = k ((upTo x 8).take n.toNat)
  | 0, e, t, ht => by
    rw [P_word_Put_5_0_s]
    have : t = 8 := by omega
    subst this
    simp [br_ite, W.lt_t, W.and2_t, W.le_t, hn.1, hn.2, W.slice, W.toNat]
  | m + 1, e, t, ht => by
    rw [P_word_Put_5_0_s]
    have e1 : W.wrap .i64 (W.mul 8 (t : Int)) = ((8 * t : Nat) : Int) := by unfold W.mul; rw [W.wi64_id (by omega) (by omega)]; omega
    have e2 : W.wrap .i64 (W.add (t : Int) 1) = ((t + 1 : Nat) : Int) := by unfold W.add; rw [W.wi64_id (by omega) (by omega)]; omega
    have e3 : W.toNat (t : Int) = t := by simp [W.toNat]
    have e4 : W.set (upTo x t) t (by8 x t) = upTo x (t + 1) := by
      unfold W.set upTo
      apply List.ext_getElem?
      intro i
      rw [List.getElem?_set]
      simp only [List.getElem?_map, List.length_map, List.length_range]
      by_cases hi : i < 8
      · rw [List.getElem?_range hi]
        by_cases h : t = i
        · subst h; simp [hi]
        · simp [h]; congr 1
          simp only [eq_iff_iff]; omega
      · rw [List.getElem?_eq_none (by simpa using hi)]
        simp; omega
    rw [e1, e2, e3, byte_of (by omega), e4]
    have c1 : (t : Int) < 8 := by omega
    have c2 : ¬ (((8 * t : Nat) : Int) < 0) := by omega
    have c3 : (0 : Int) ≤ t := by omega
    simp only [br_ite, W.lt_t, W.and2_t, W.le_t, c1, c2, c3, and_self, if_true, if_false]
    exact put_loop hn m e (t + 1) (by omega)
theorem sz_le {n : Int} (h : sz n = true) : 0 ≤ n ∧ n ≤ 8 := by simp [sz] at h; omega
theorem put_eq (a : PTs.D ps_word_Put) (hn : wfI .i64 a.2) (k : List Int → Option R) : F_word_Put R a k = k (bytesN a.1 a.2) := by
  obtain ⟨(x : Int), (n : Int)⟩ := a
  have hn : wfI .i64 n := hn
  simp only [F_word_Put, N_word_Put, size_eq n hn, br_ite, W.not_t, bytesN]
  cases hs : sz n with
  | false => simp
  | true =>
    simp
    have := put_loop (R := R) (F := F_word_Size) (fl := W.big) (x := x) (n := n) (k := k) (sz_le hs) 8 (W.big - 9) 0 rfl
    rw [show W.big - 9 + 8 + 1 = W.big by unfold W.big; omega] at this
    have h0 : upTo x 0 = [0, 0, 0, 0, 0, 0, 0, 0] := rfl
    rw [h0] at this
    refine this.trans ?_
    congr 1
    have hle := sz_le hs
    apply List.ext_getElem?
    intro i
    simp only [upTo, List.getElem?_take, List.getElem?_map]
    by_cases hi : i < n.toNat
    · rw [if_pos hi, List.getElem?_range hi, List.getElem?_range (by omega)]; simp; omega
    · rw [if_neg hi, List.getElem?_eq_none (by simpa using hi)]; rfl
theorem bytes_ok (x n : Int) : BtOk (bytesN x n) := by
  intro i
  unfold bt bytesN
  rw [List.getD_eq_getElem?_getD]
  split
  · rw [List.getElem?_map]
    cases h : (List.range n.toNat)[i]? with
    | none => simp
    | some j => simp [by8]; omega
  · simp
theorem bt_bytes {x n : Int} (h : sz n = true) (i : Nat) : bt (bytesN x n) i = if i < n.toNat then by8 x i else 0 := by
  unfold bt bytesN
  rw [if_pos h, List.getD_eq_getElem?_getD, List.getElem?_map]
  by_cases hi : i < n.toNat
  · rw [List.getElem?_range hi, if_pos hi]; rfl
  · rw [List.getElem?_eq_none (by simpa using hi), if_neg hi]; rfl
theorem hg_bytes {x n : Int} (h : sz n = true) (hx : p64 x) : hg (bytesN x n) 8 = x % 256 ^ n.toNat := by
  unfold p64 at hx
  simp only [hg, bt_bytes h]
  simp only [sz, decide_eq_true_eq] at h
  rcases h with h | h | h | h <;> subst h <;> simp [by8] <;> omega
def sgnN (x n : Int) : Int := if n = 1 then W.wrap .u64 (W.wrap .i8 x) else if n = 2 then W.wrap .u64 (W.wrap .i16 x) else if n = 4 then W.wrap .u64 (W.wrap .i32 x) else x
theorem sign_eq (a : PTs.D ps_word_Sign) (k : Int → Option R) : F_word_Sign R a k = k (sgnN a.1 a.2) := by
  obtain ⟨(x : Int), (n : Int)⟩ := a
  simp only [F_word_Sign, N_word_Sign, br_ite, W.eq_t, sgnN, apply_ite k]
theorem sign_again (x n : Int) : sgnN (sgnN x n) n = sgnN x n := by
  unfold sgnN
  by_cases h1 : n = 1
  · simp [h1, W.wu64, W.wi8]; split <;> split <;> omega
  by_cases h2 : n = 2
  · simp [h2, W.wu64, W.wi16]; split <;> split <;> omega
  by_cases h4 : n = 4
  · simp [h4, W.wu64, W.wi32]; split <;> split <;> omega
  simp [h1, h2, h4]
theorem shl1 {n : Int} (h : n = 1 ∨ n = 2 ∨ n = 4) : W.wrap .u64 (W.shl .u64 1 (W.wrap .u64 (W.wrap .i64 (W.mul 8 n)))) = 256 ^ n.toNat := by
  rcases h with h | h | h <;> subst h <;> decide +kernel
theorem WordBack_law (a : PTs.D ps_clevislaw01WordBack) (hw : WfL ps_clevislaw01WordBack a) : ∃ (C : Cfg) (fl d : Nat), CfgOk C ∧ C.P = Try.prog ∧ call C fl d 7 (encL false ps_clevislaw01WordBack a) [] getL = some () := by
  refine E_clevislaw01WordBack ok_word_Size ok_word_Get ok_clevislaw01heads ok_word_Put ok_word_Sign a ?_
  obtain ⟨(x : Int), (n : Int)⟩ := a
  obtain ⟨hx, hn⟩ := hw
  have hx : p64 x := u64_lo hx
  have hn : wfI .i64 n := hn
  have hg8 := get_eq (R := Unit) (bytesN x n) (bytes_ok x n)
  have hlen : (W.len (bytesN x n)) = if sz n then n.toNat else 0 := by unfold W.len bytesN; split <;> simp
  simp only [L_clevislaw01WordBack, put_eq (R := Unit) (x, n) hn, size_eq (R := Unit) n hn, hg8, sign_eq, heads_eq, sign_again, hlen]
  cases hs : sz n with
  | false => simp [br_ite, W.not, W.eq_t, W.ofNat, W.pick_t]
  | true =>
    have h := hg_bytes (x := x) hs hx
    have hle := sz_le hs
    have h1 : W.eq (W.ofNat n.toNat) n = true := by rw [W.eq_t]; unfold W.ofNat; omega
    by_cases h8 : n < 8
    · have hsm : n = 1 ∨ n = 2 ∨ n = 4 := by simp [sz] at hs; omega
      have h3 : W.rem x (256 ^ n.toNat) = x % 256 ^ n.toNat := Int.tmod_eq_emod_of_nonneg hx.1
      have h4 : ¬ ((256 : Int) ^ n.toNat = 0) := by have : (0 : Int) < 256 ^ n.toNat := Int.pow_pos (by omega)
                                                    omega
      simp [br_ite, W.not, W.lt_t, h8, shl1 hsm, W.eq_t, h4, h1, h3, h, W.pick_t]
    · have h9 : n = 8 := by omega
      have hx' := hx
      subst h9
      have h5 : x % 256 ^ (8 : Int).toNat = x := by
        unfold p64 at hx'
        have : (256 : Int) ^ (8 : Int).toNat = 18446744073709551616 := by decide
        rw [this]; omega
      rw [h5] at h
      simp [br_ite, W.not, W.lt_t, W.eq_t, h, W.pick_t, W.ofNat]
end Go.Proofs.Ytobdjaokdmifiaa
