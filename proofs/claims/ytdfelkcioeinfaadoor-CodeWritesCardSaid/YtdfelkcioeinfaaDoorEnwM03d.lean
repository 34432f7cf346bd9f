import Derived.Test.YtdfelkcioeinfaaDoorEnwM03c
import Derived.Test.YtdfelkcioeinfaaDoorEnwW07
set_option linter.unusedVariables false
set_option linter.unusedSimpArgs false
set_option maxHeartbeats 1000000
set_option maxRecDepth 100000
namespace Go.Proofs.YtdfelkcioeinfaaDoor
open Go Go.Eng
variable {R : Type}
theorem btok_of {l : List Int} (h : ∀ x ∈ l, 0 ≤ x ∧ x < 256) : BtOk l := by
  intro i
  unfold bt
  rw [List.getD_eq_getElem?_getD]
  cases e : l[i]? with
  | none => decide
  | some x => exact h x (List.mem_of_getElem? e)
theorem same6 (x y : In6) : W.and2 (W.eq x.1 y.1) (W.and2 (W.eq x.2.1 y.2.1) (W.and2 (W.eq x.2.2.1 y.2.2.1) (W.and2 (W.eq x.2.2.2.1 y.2.2.2.1) (W.and2 (W.eq x.2.2.2.2.1 y.2.2.2.2.1) (W.and2 (W.eq x.2.2.2.2.2 y.2.2.2.2.2) true))))) = decide (x = y) := by
  rw [Bool.eq_iff_iff]
  simp [W.and2, W.eq_d, Prod.ext_iff]
theorem getz (l : List In6) (i : Nat) (h : i < l.length) : W.get l (W.toNat (i : Int)) (0, 0, 0, 0, 0, 0) = l[i] := by
  rw [W.get_eq]
  show l.getD i (0, 0, 0, 0, 0, 0) = _
  rw [List.getD_eq_getElem?_getD, List.getElem?_eq_getElem h]; rfl
theorem getzi (l : List In6) (i : Nat) : W.get l (W.toNat (i : Int)) (0, 0, 0, 0, 0, 0) = l.getD i zi := by
  rw [W.get_eq]; rfl
theorem next {i : Nat} (h : i ≤ 281474976710656) : W.wrap .i64 (W.add (i : Int) 1) = ((i + 1 : Nat) : Int) := by
  rw [W.add_eq, W.wi64_id (by omega) (by omega)]; omega
theorem same_loop {fl : Nat} {k : Bool → Option R} (a b : List In6) (hab : a.length = b.length) (hl : a.length ≤ 281474976710656) : ∀ (m e i : Nat), i + m = a.length →
    P_clevisref03Same_4_0 fl (e + m + 1) R a b (i : Int) k = k (decide (a.drop i = b.drop i))
  | 0, e, i, hi => by
    rw [P_clevisref03Same_4_0_s, olI]
    refine brf (cF q5 (by omega)) ?_
    rw [List.drop_of_length_le (by omega), List.drop_of_length_le (by omega)]
    rfl
  | m + 1, e, i, hi => by
    have h1 : i < a.length := by omega
    have h2 : i < b.length := by omega
    rw [P_clevisref03Same_4_0_s]
    simp only [olI, getz a i h1, getz b i h2, next (i := i) (by omega)]
    refine brt (cT q5 (by omega)) (brt (cT q6 ⟨by omega, by omega⟩) (brt (cT q6 ⟨by omega, by omega⟩) ?_))
    rw [same6, List.drop_eq_getElem_cons h1, List.drop_eq_getElem_cons h2]
    by_cases h : a[i] = b[i]
    · refine brf (by rw [decide_eq_true h]; rfl) ?_
      refine (same_loop (fl := fl) (k := k) a b hab hl m e (i + 1) (by omega)).trans (congrArg k ?_)
      rw [Bool.eq_iff_iff]
      simp only [decide_eq_true_eq, List.cons.injEq, h, true_and]
    · refine brt (by rw [decide_eq_false h]; rfl) (congrArg k ?_)
      exact (decide_eq_false fun c => h (List.cons.inj c).1).symm
theorem sames_eq (a b : List In6) (hl : a.length ≤ 281474976710656) (hl2 : b.length ≤ 281474976710656) (k : Bool → Option R) : F_clevisref03Same R (a, b) k = k (decide (a = b)) := by
  show N_clevisref03Same W.big R (a, b) k = _
  unfold N_clevisref03Same
  simp only [olI]
  by_cases h : a.length = b.length
  · refine brf (cF q9 (fun c => c (by omega))) ?_
    obtain ⟨e, he⟩ := bigs (n := a.length + 1) (by omega)
    have := same_loop (R := R) (fl := W.big) (k := k) a b h hl a.length e 0 (by omega)
    rw [show e + a.length + 1 = W.big by omega] at this
    exact this
  · refine brt (cT q9 (by omega)) ?_
    rw [decide_eq_false (fun c => h (by rw [c]))]
/-- How many wide instructions stand without a gap ahead of a place. -/
def runF (l : List In6) : Nat → Nat
  | 0 => 0
  | i + 1 => if (l.getD i zi).1 = 24 then runF l i + 1 else 0
theorem runF_le (l : List In6) : ∀ i, runF l i ≤ i
  | 0 => by simp [runF]
  | i + 1 => by have := runF_le l i; unfold runF; split <;> omega
noncomputable def holeP (l : List In6) (i : Int) : Bool := decide (1 ≤ i ∧ i < l.length ∧ runF l i.toNat % 2 = 1)
theorem and1 {n : Nat} (h : n ≤ 281474976710656) : W.eq (W.wrap .i64 (W.and .i64 (n : Int) 1)) 1 = decide (n % 2 = 1) := by
  have : W.and .i64 (n : Int) 1 = (n : Int) % 2 := W.and_1 _
  rw [this, W.wi64_id (by omega) (by omega), W.eq_d, Bool.eq_iff_iff]; simp only [decide_eq_true_eq]; omega
theorem back {i n : Nat} (h : i ≤ 281474976710656) (hn : n < i) : W.wrap .i64 (W.sub (W.wrap .i64 (W.sub (i : Int) 1)) (n : Int)) = ((i - 1 - n : Nat) : Int) := by
  have e1 : W.wrap .i64 (W.sub (i : Int) 1) = (i : Int) - 1 := by rw [W.sub_eq, W.wi64_id (by omega) (by omega)]
  rw [e1, W.sub_eq, W.wi64_id (by omega) (by omega)]; omega
theorem rem2 (c : Nat) : W.eq (W.rem (c : Int) 2) 1 = decide (c % 2 = 1) := by
  rw [show W.rem (c : Int) 2 = ((c % 2 : Nat) : Int) from rfl, W.eq_d, Bool.eq_iff_iff]; simp only [decide_eq_true_eq]; omega
theorem qp {a b c d : Int} : W.pick (W.lt a b) (W.eq c d) false = true ↔ a < b ∧ c = d := by simp only [W.pick_eq, W.lt_d, W.eq_d]; by_cases h : a < b <;> simp [h]
theorem qpg {a b c d : Int} : W.pick (W.ge a b) (W.eq c d) false = true ↔ b ≤ a ∧ c = d := by simp only [W.pick_eq, W.ge_d, W.eq_d]; by_cases h : b ≤ a <;> simp [h]
theorem qor {a b c d : Int} : W.pick (W.lt a b) true (W.ge c d) = true ↔ a < b ∨ d ≤ c := by simp only [W.pick_eq, W.lt_d, W.ge_d]; by_cases h : a < b <;> simp [h]
theorem qo {a b c d e f : Int} : W.or2 (W.not (W.lt a b)) (W.and2 (W.le c d) (W.lt e f)) = true ↔ (a < b → c ≤ d ∧ e < f) := by
  simp only [W.or2, W.not, W.and2, W.lt_d, W.le_d]; by_cases h : a < b <;> simp [h]
theorem qog {a b c d e f : Int} : W.or2 (W.not (W.ge a b)) (W.and2 (W.le c d) (W.lt e f)) = true ↔ (b ≤ a → c ≤ d ∧ e < f) := by
  simp only [W.or2, W.not, W.and2, W.lt_d, W.le_d, W.ge_d]; by_cases h : b ≤ a <;> simp [h]
theorem hole_loop {fl : Nat} {k : Bool → Option R} (l : List In6) (i : Nat) (hi : i < l.length) (hl : l.length ≤ 281474976710656) : ∀ (m e n : Nat), n + m = i →
    P_code_Hole_4_0 fl (e + m + 1) R l (i : Int) (n : Int) k = k (decide ((n + runF l m) % 2 = 1))
  | 0, e, n, hn => by
    rw [P_code_Hole_4_0_s]
    refine brt (cT qo (fun c => by omega)) (brf (cF qp (fun c => by omega)) ?_)
    rw [and1 (by omega)]; rfl
  | m + 1, e, n, hn => by
    rw [P_code_Hole_4_0_s]
    simp only [back (i := i) (n := n) (by omega) (by omega), getzi, olI, next (i := n) (by omega)]
    refine brt (cT qo (fun c => ⟨by omega, by omega⟩)) ?_
    have em : i - 1 - n = m := by omega
    rw [em]
    by_cases h : (l.getD m zi).1 = 24
    · refine brt (cT qp ⟨by omega, h⟩) ?_
      refine (hole_loop (fl := fl) (k := k) l i hi hl m e (n + 1) (by omega)).trans ?_
      rw [show runF l (m + 1) = runF l m + 1 from if_pos h, show n + 1 + runF l m = n + (runF l m + 1) by omega]
    · refine brf (cF qp (fun c => h c.2)) ?_
      rw [and1 (by omega), show runF l (m + 1) = 0 from if_neg h]; rfl
theorem hole_eq (l : List In6) (i : Int) (hl : l.length ≤ 281474976710656) (k : Bool → Option R) : F_code_Hole R (l, i) k = k (holeP l i) := by
  show N_code_Hole W.big R (l, i) k = _
  unfold N_code_Hole holeP
  simp only [olI]
  by_cases h : i < 1 ∨ (l.length : Int) ≤ i
  · refine brt (cT qor h) ?_
    rw [decide_eq_false (by omega)]
  · refine brf (cF qor h) ?_
    obtain ⟨n, rfl⟩ : ∃ n : Nat, i = n := ⟨i.toNat, by omega⟩
    obtain ⟨e, he⟩ := bigs (n := n + 1) (by omega)
    have := hole_loop (R := R) (fl := W.big) (k := k) l n (by omega) hl n e 0 (by omega)
    rw [show e + n + 1 = W.big by omega] at this
    refine Eq.trans this (congrArg k ?_)
    rw [Bool.eq_iff_iff]; simp only [decide_eq_true_eq, Int.toNat_natCast]; omega
theorem rhole_loop {fl : Nat} {k : Bool → Option R} (l : List In6) (hl : l.length ≤ 281474976710656) : ∀ (m e c : Nat), m ≤ l.length → c ≤ 281474976710656 - m →
    P_clevisref03Hole_5_0 fl (e + m + 1) R l (c : Int) ((m : Int) - 1) k = k (decide ((c + runF l m) % 2 = 1))
  | 0, e, c, hm, hc => by
    rw [P_clevisref03Hole_5_0_s]
    refine brt (cT qog (fun c => by omega)) (brf (cF qpg (fun c => by omega)) ?_)
    refine congrArg k ?_
    rw [rem2]; rfl
  | m + 1, e, c, hm, hc => by
    rw [P_clevisref03Hole_5_0_s]
    have e1 : ((m + 1 : Nat) : Int) - 1 = (m : Int) := by omega
    have e2 : W.wrap .i64 (W.sub (m : Int) 1) = (m : Int) - 1 := by rw [W.sub_eq, W.wi64_id (by omega) (by omega)]
    simp only [e1, e2, getzi, olI, next (i := c) (by omega)]
    refine brt (cT qog (fun c => ⟨by omega, by omega⟩)) ?_
    by_cases h : (l.getD m zi).1 = 24
    · refine brt (cT qpg ⟨by omega, h⟩) ?_
      refine (rhole_loop (fl := fl) (k := k) l hl m e (c + 1) (by omega) (by omega)).trans ?_
      rw [show runF l (m + 1) = runF l m + 1 from if_pos h, show c + 1 + runF l m = c + (runF l m + 1) by omega]
    · refine brf (cF qpg (fun c => h c.2)) ?_
      refine congrArg k ?_
      rw [rem2, show runF l (m + 1) = 0 from if_neg h]; rfl
theorem rhole_eq (l : List In6) (i : Int) (hl : l.length ≤ 281474976710656) (hi : -9223372036854775808 ≤ i ∧ i < 9223372036854775808) (k : Bool → Option R) : F_clevisref03Hole R (l, i) k = k (holeP l i) := by
  show N_clevisref03Hole W.big R (l, i) k = _
  unfold N_clevisref03Hole holeP
  simp only [olI]
  by_cases h : i < 1 ∨ (l.length : Int) ≤ i
  · have hc : W.pick (W.lt i 1) true (W.ge i (l.length : Int)) = true := cT qor h
    rw [hc]
    refine brt (by rfl) (brt (by rfl) ?_)
    rw [decide_eq_false (by omega)]
  · have hc : W.pick (W.lt i 1) true (W.ge i (l.length : Int)) = false := cF qor h
    obtain ⟨n, rfl⟩ : ∃ n : Nat, i = ((n + 1 : Nat) : Int) := ⟨i.toNat - 1, by omega⟩
    have e2 : W.wrap .i64 (W.sub ((n + 1 : Nat) : Int) 1) = (n : Int) := by rw [W.sub_eq, W.wi64_id (by omega) (by omega)]; omega
    rw [hc, e2]
    simp only [getzi]
    refine brt (by show W.or2 false (W.and2 (W.le 0 (n : Int)) (W.lt (n : Int) (l.length : Int))) = true; rw [cT q6 ⟨by omega, by omega⟩]; rfl) ?_
    by_cases h24 : (l.getD n zi).1 = 24
    · refine brf (by show W.ne (l.getD n zi).1 24 = false; exact cF q9 (fun c => c h24)) ?_
      obtain ⟨e, he⟩ := bigs (n := n + 1 + 1) (by omega)
      have := rhole_loop (R := R) (fl := W.big) (k := k) l hl (n + 1) e 0 (by omega) (by omega)
      rw [show e + (n + 1) + 1 = W.big by omega, show ((n + 1 : Nat) : Int) - 1 = (n : Int) by omega] at this
      refine Eq.trans this (congrArg k ?_)
      rw [Bool.eq_iff_iff]; simp only [decide_eq_true_eq, Int.toNat_natCast]; omega
    · refine brt (by show W.ne (l.getD n zi).1 24 = true; exact cT q9 h24) ?_
      rw [decide_eq_false]
      rintro ⟨_, _, c⟩
      rw [Int.toNat_natCast, show runF l (n + 1) = 0 from if_neg h24] at c
      omega
theorem dd {n : Nat} (h : n < 10) : itoaS (n : Int) = ⟨#[UInt8.ofNat (48 + n)]⟩ := by
  unfold itoaS Lib.itoa; rw [if_neg (by omega), Int.toNat_natCast, Lib.decDigits_one h]
theorem d183 : itoaS 183 = ⟨#[49, 56, 51]⟩ := by
  unfold itoaS Lib.itoa; rw [if_neg (by decide), show (183 : Int).toNat = 183 from rfl, Lib.decDigits, dif_neg (by decide), show 183 / 10 = 18 from rfl, Lib.decDigits_two (by decide) (by decide)]; rfl
def spc : ByteArray := (ByteArray.mk (Array.mk [UInt8.ofBitVec (BitVec.ofFin (Fin.mk 32 (Nat.mod_lt 32 (BitVec.ofNat._proof_1 8))))]))
theorem txt_h : joinS [itoaS 183, itoaS 0, itoaS 0, itoaS 0, itoaS 5] spc = (ByteArray.mk (Array.mk [UInt8.ofBitVec (BitVec.ofFin (Fin.mk 49 (Nat.mod_lt 49 (BitVec.ofNat._proof_1 8)))), UInt8.ofBitVec (BitVec.ofFin (Fin.mk 56 (Nat.mod_lt 56 (BitVec.ofNat._proof_1 8)))), UInt8.ofBitVec (BitVec.ofFin (Fin.mk 51 (Nat.mod_lt 51 (BitVec.ofNat._proof_1 8)))), UInt8.ofBitVec (BitVec.ofFin (Fin.mk 32 (Nat.mod_lt 32 (BitVec.ofNat._proof_1 8)))), UInt8.ofBitVec (BitVec.ofFin (Fin.mk 48 (Nat.mod_lt 48 (BitVec.ofNat._proof_1 8)))), UInt8.ofBitVec (BitVec.ofFin (Fin.mk 32 (Nat.mod_lt 32 (BitVec.ofNat._proof_1 8)))), UInt8.ofBitVec (BitVec.ofFin (Fin.mk 48 (Nat.mod_lt 48 (BitVec.ofNat._proof_1 8)))), UInt8.ofBitVec (BitVec.ofFin (Fin.mk 32 (Nat.mod_lt 32 (BitVec.ofNat._proof_1 8)))), UInt8.ofBitVec (BitVec.ofFin (Fin.mk 48 (Nat.mod_lt 48 (BitVec.ofNat._proof_1 8)))), UInt8.ofBitVec (BitVec.ofFin (Fin.mk 32 (Nat.mod_lt 32 (BitVec.ofNat._proof_1 8)))), UInt8.ofBitVec (BitVec.ofFin (Fin.mk 53 (Nat.mod_lt 53 (BitVec.ofNat._proof_1 8))))])) := by
  refine ba_ext ?_
  rw [join_data, d183, show itoaS 0 = _ from dd (n := 0) (by decide), show itoaS 5 = _ from dd (n := 5) (by decide)]
  rfl
theorem text_h (k : ByteArray → Option R) : F_code_Text R (183, 0, 0, 0, 5, 0) k = k (ByteArray.mk (Array.mk [UInt8.ofBitVec (BitVec.ofFin (Fin.mk 49 (Nat.mod_lt 49 (BitVec.ofNat._proof_1 8)))), UInt8.ofBitVec (BitVec.ofFin (Fin.mk 56 (Nat.mod_lt 56 (BitVec.ofNat._proof_1 8)))), UInt8.ofBitVec (BitVec.ofFin (Fin.mk 51 (Nat.mod_lt 51 (BitVec.ofNat._proof_1 8)))), UInt8.ofBitVec (BitVec.ofFin (Fin.mk 32 (Nat.mod_lt 32 (BitVec.ofNat._proof_1 8)))), UInt8.ofBitVec (BitVec.ofFin (Fin.mk 48 (Nat.mod_lt 48 (BitVec.ofNat._proof_1 8)))), UInt8.ofBitVec (BitVec.ofFin (Fin.mk 32 (Nat.mod_lt 32 (BitVec.ofNat._proof_1 8)))), UInt8.ofBitVec (BitVec.ofFin (Fin.mk 48 (Nat.mod_lt 48 (BitVec.ofNat._proof_1 8)))), UInt8.ofBitVec (BitVec.ofFin (Fin.mk 32 (Nat.mod_lt 32 (BitVec.ofNat._proof_1 8)))), UInt8.ofBitVec (BitVec.ofFin (Fin.mk 48 (Nat.mod_lt 48 (BitVec.ofNat._proof_1 8)))), UInt8.ofBitVec (BitVec.ofFin (Fin.mk 32 (Nat.mod_lt 32 (BitVec.ofNat._proof_1 8)))), UInt8.ofBitVec (BitVec.ofFin (Fin.mk 53 (Nat.mod_lt 53 (BitVec.ofNat._proof_1 8))))])) := by
  have e : F_code_Text R (183, 0, 0, 0, 5, 0) k = br (W.and2 (W.leN 5 140737488355328) (W.leN (W.size (joinS [itoaS 183, itoaS 0, itoaS 0, itoaS 0, itoaS 5] spc)) 281474976710656)) (k (joinS [itoaS 183, itoaS 0, itoaS 0, itoaS 0, itoaS 5] spc)) none := by kernel_rfl
  rw [e, txt_h]
  exact brt (by rfl) (Eq.refl _)
theorem heads_eq (k : Bool → Option R) : F_clevislaw03heads R () k = k true := by
  show N_clevislaw03heads F_code_Decode F_code_Hole F_code_Text R () k = _
  unfold N_clevislaw03heads
  have e1 : decC [183, 0, 0, 0, 5, 0, 0, 0] = ([(183, 0, 0, 0, 5, 0)], 0) := by kernel_rfl
  have e2 : decC [24, 0, 0, 0, 0, 0, 0, 0] = ([], 30) := by kernel_rfl
  have e3 : decC [24, 1, 0, 0, 7, 0, 0, 0, 0, 0, 0, 0, 1, 0, 0, 0] = ([(24, 1, 0, 0, 7, 4294967303), (0, 0, 0, 0, 0, 0)], 0) := by kernel_rfl
  rw [dec_eq _ (btok_of (by decide)) (by decide), e1]; (try dsimp only)
  rw [dec_eq _ (btok_of (by decide)) (by decide), e2]; (try dsimp only)
  rw [dec_eq _ (btok_of (by decide)) (by decide), e3]; (try dsimp only)
  refine brt (by rfl) (brt (by rfl) (brt (by rfl) ?_))
  refine (text_h _).trans ?_
  rw [eqS_refl]
  refine brt (by rfl) (brt (by rfl) ?_)
  rw [hole_eq _ _ (by decide)]
  have h1 : holeP [(24, 1, 0, 0, 7, 4294967303), (0, 0, 0, 0, 0, 0)] 1 = true := by unfold holeP; exact decide_eq_true (by decide)
  have h0 : holeP [(24, 1, 0, 0, 7, 4294967303), (0, 0, 0, 0, 0, 0)] 0 = false := by unfold holeP; exact decide_eq_false (by decide)
  refine brt h1 ?_
  rw [hole_eq _ _ (by decide)]
  exact congrArg k (by rw [h0]; rfl)
end Go.Proofs.YtdfelkcioeinfaaDoor
