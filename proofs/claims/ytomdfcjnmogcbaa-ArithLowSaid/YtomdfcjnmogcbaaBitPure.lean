/- Plain laws of known bits: sums, differences, products; with no program in sight. -/
import Derived.Test.YtomdfcjnmogcbaaMemPure
set_option linter.unusedVariables false
set_option linter.unusedSimpArgs false
set_option maxHeartbeats 4000000
set_option maxRecDepth 100000
namespace Go.Eng
open Go
/-- All bits of p are bits of q. -/
def subB (p q : BitVec 64) : Prop := p &&& q = p
theorem subB_iff {p q : BitVec 64} : subB p q ↔ ∀ i, i < 64 → p.getLsbD i = true → q.getLsbD i = true := by
  unfold subB
  constructor
  · intro h i hi hp
    have := congrArg (fun z => z.getLsbD i) h
    simp only [BitVec.getLsbD_and, hp, Bool.true_and] at this
    exact this
  · intro h
    apply BitVec.eq_of_getLsbD_eq
    intro i hi
    rw [BitVec.getLsbD_and]
    have := h i hi
    cases hp : p.getLsbD i with
    | false => rfl
    | true => rw [this hp]; rfl
theorem subB_mod {p q : BitVec 64} (h : subB p q) (i : Nat) : p.toNat % 2 ^ i ≤ q.toNat % 2 ^ i := by
  have h1 : p.toNat &&& q.toNat = p.toNat := by
    have := congrArg BitVec.toNat h
    rwa [BitVec.toNat_and] at this
  have h2 : (p.toNat % 2 ^ i) &&& (q.toNat % 2 ^ i) = p.toNat % 2 ^ i := by
    rw [← Nat.and_mod_two_pow, h1]
  rw [← h2]
  exact Nat.and_le_right
theorem carry_mono {p q P Q : BitVec 64} (h1 : subB p P) (h2 : subB q Q) {i : Nat} (h : BitVec.carry i p q false = true) : BitVec.carry i P Q false = true := by
  simp only [BitVec.carry, Bool.toNat_false, Nat.add_zero, decide_eq_true_eq] at h ⊢
  have := subB_mod h1 i
  have := subB_mod h2 i
  omega
/-- Between two sums whose bits agree, all sums have that bit. -/
theorem add_between {p X P q Y Q : BitVec 64} (h1 : subB p X) (h2 : subB X P) (h3 : subB q Y) (h4 : subB Y Q) {i : Nat} (hi : i < 64) (e1 : p.getLsbD i = P.getLsbD i) (e2 : q.getLsbD i = Q.getLsbD i)
    (e3 : (p + q).getLsbD i = (P + Q).getLsbD i) : (X + Y).getLsbD i = (p + q).getLsbD i := by
  rw [BitVec.getLsbD_add hi, BitVec.getLsbD_add hi] at e3
  rw [BitVec.getLsbD_add hi, BitVec.getLsbD_add hi]
  have a1 := subB_iff.1 h1 i hi
  have a2 := subB_iff.1 h2 i hi
  have a3 := subB_iff.1 h3 i hi
  have a4 := subB_iff.1 h4 i hi
  have c1 := carry_mono h1 h3 (i := i)
  have c2 := carry_mono h2 h4 (i := i)
  revert e1 e2 e3 a1 a2 a3 a4 c1 c2
  generalize p.getLsbD i = b1
  generalize P.getLsbD i = b2
  generalize X.getLsbD i = b3
  generalize q.getLsbD i = b4
  generalize Q.getLsbD i = b5
  generalize Y.getLsbD i = b6
  generalize BitVec.carry i p q false = b7
  generalize BitVec.carry i P Q false = b8
  generalize BitVec.carry i X Y false = b9
  cases b1 <;> cases b2 <;> cases b3 <;> cases b4 <;> cases b5 <;> cases b6 <;> cases b7 <;> cases b8 <;> cases b9 <;> simp
/-- x has the known bits v, but for those of m. -/
def inT (v m x : BitVec 64) : Prop := x &&& ~~~m = v
def okT (v m : BitVec 64) : Prop := v &&& m = 0#64
theorem bb {p q : BitVec 64} : p = q ↔ ∀ i, i < 64 → p.getLsbD i = q.getLsbD i := ⟨fun h i _ => by rw [h], fun h => BitVec.eq_of_getLsbD_eq fun i hi => h i hi⟩
theorem inT_low {v m x : BitVec 64} (h : inT v m x) : subB v x := by
  rw [subB_iff]; intro i hi
  have := bb.1 h i hi
  simp only [BitVec.getLsbD_and, BitVec.getLsbD_not, decide_eq_true hi, Bool.true_and] at this
  rw [← this]; cases x.getLsbD i <;> simp
theorem inT_high {v m x : BitVec 64} (h : inT v m x) : subB x (v ||| m) := by
  rw [subB_iff]; intro i hi
  have := bb.1 h i hi
  simp only [BitVec.getLsbD_and, BitVec.getLsbD_not, decide_eq_true hi, Bool.true_and] at this
  rw [BitVec.getLsbD_or, ← this]; cases x.getLsbD i <;> cases m.getLsbD i <;> simp
theorem or_add {v m : BitVec 64} (h : okT v m) : v ||| m = v + m := (BitVec.add_eq_or_of_and_eq_zero v m h).symm
def addV (v m v' m' : BitVec 64) : BitVec 64 × BitVec 64 :=
  let s := v + v'
  let u := ((m + m' + s) ^^^ s) ||| m ||| m'
  (s &&& ~~~u, u)
theorem add_in {v m v' m' x y : BitVec 64} (k : okT v m) (k' : okT v' m') (h : inT v m x) (h' : inT v' m' y) : inT (addV v m v' m').1 (addV v m v' m').2 (x + y) := by
  unfold inT addV
  simp only
  rw [bb]; intro i hi
  simp only [BitVec.getLsbD_and, BitVec.getLsbD_not, decide_eq_true hi, Bool.true_and]
  cases hu : (((m + m' + (v + v')) ^^^ (v + v')) ||| m ||| m').getLsbD i with
  | true => simp
  | false =>
    simp only [Bool.not_false, Bool.and_true]
    simp only [BitVec.getLsbD_or, BitVec.getLsbD_xor, Bool.or_eq_false_iff] at hu
    obtain ⟨⟨hx, hm⟩, hm'⟩ := hu
    have e : m + m' + (v + v') = (v ||| m) + (v' ||| m') := by rw [or_add k, or_add k']; ac_rfl
    rw [e] at hx
    refine add_between (inT_low h) (inT_high h) (inT_low h') (inT_high h') hi ?_ ?_ ?_
    · rw [BitVec.getLsbD_or, hm]; simp
    · rw [BitVec.getLsbD_or, hm']; simp
    · cases h1 : ((v ||| m) + (v' ||| m')).getLsbD i <;> cases h2 : (v + v').getLsbD i <;> simp [h1, h2] at hx ⊢
theorem add_ok (v m v' m' : BitVec 64) : okT (addV v m v' m').1 (addV v m v' m').2 := by
  unfold okT addV
  simp only
  rw [bb]; intro i hi
  simp only [BitVec.getLsbD_and, BitVec.getLsbD_not, BitVec.getLsbD_zero, decide_eq_true hi, Bool.true_and]
  cases ((m + m' + (v + v') ^^^ v + v') ||| m ||| m').getLsbD i <;> simp
def subV (v m v' m' : BitVec 64) : BitVec 64 × BitVec 64 :=
  let d := v - v'
  let u := ((d + m) ^^^ (d - m')) ||| m ||| m'
  (d &&& ~~~u, u)
theorem not_sub (x y : BitVec 64) : ~~~(x - y) = ~~~x + y := by
  rw [BitVec.not_eq_neg_add, BitVec.not_eq_neg_add, BitVec.neg_sub]
  rw [BitVec.sub_eq_add_neg, BitVec.sub_eq_add_neg]
  ac_rfl
theorem subB_not {p q : BitVec 64} (h : subB p q) : subB (~~~q) (~~~p) := by
  rw [subB_iff] at h ⊢
  intro i hi hq
  have := h i hi
  rw [BitVec.getLsbD_not] at hq ⊢
  rw [decide_eq_true hi, Bool.true_and] at *
  cases hp : p.getLsbD i with
  | false => rfl
  | true => rw [this hp] at hq; exact hq
theorem sub_in {v m v' m' x y : BitVec 64} (k : okT v m) (k' : okT v' m') (h : inT v m x) (h' : inT v' m' y) : inT (subV v m v' m').1 (subV v m v' m').2 (x - y) := by
  unfold inT subV
  simp only
  rw [bb]; intro i hi
  simp only [BitVec.getLsbD_and, BitVec.getLsbD_not, decide_eq_true hi, Bool.true_and]
  cases hu : (((v - v' + m) ^^^ (v - v' - m')) ||| m ||| m').getLsbD i with
  | true => simp
  | false =>
    simp only [Bool.not_false, Bool.and_true]
    simp only [BitVec.getLsbD_or, BitVec.getLsbD_xor, Bool.or_eq_false_iff] at hu
    obtain ⟨⟨hx, hm⟩, hm'⟩ := hu
    have e1 : ~~~(v - v' + m) = ~~~(v ||| m) + v' := by
      rw [or_add k, ← not_sub]; congr 1
      rw [BitVec.sub_eq_add_neg, BitVec.sub_eq_add_neg]; ac_rfl
    have e2 : ~~~(v - v' - m') = ~~~v + (v' ||| m') := by
      rw [or_add k', ← not_sub]; congr 1
      rw [BitVec.sub_eq_add_neg, BitVec.sub_eq_add_neg, BitVec.sub_eq_add_neg, BitVec.neg_add, BitVec.sub_eq_add_neg]; ac_rfl
    have nb : ∀ z : BitVec 64, z.getLsbD i = !((~~~z).getLsbD i) := by intro z; rw [BitVec.getLsbD_not, decide_eq_true hi]; simp
    have hmm : (~~~(v ||| m)).getLsbD i = (~~~v).getLsbD i := by simp only [BitVec.getLsbD_not, BitVec.getLsbD_or, hm, Bool.or_false]
    have hmm' : v'.getLsbD i = (v' ||| m').getLsbD i := by rw [BitVec.getLsbD_or, hm']; simp
    have he : (~~~(v ||| m) + v').getLsbD i = (~~~v + (v' ||| m')).getLsbD i := by
      rw [← e1, ← e2]
      rw [BitVec.getLsbD_not, BitVec.getLsbD_not]
      cases h1 : (v - v' + m).getLsbD i <;> cases h2 : (v - v' - m').getLsbD i <;> simp [h1, h2] at hx ⊢
    have a := add_between (subB_not (inT_high h)) (subB_not (inT_low h)) (inT_low h') (inT_high h') hi hmm hmm' he
    have b := add_between (X := ~~~v) (Y := v') (subB_not (show subB v (v ||| m) by rw [subB_iff]; intro j hj hv; rw [BitVec.getLsbD_or, hv]; rfl)) (show subB (~~~v) (~~~v) by unfold subB; exact BitVec.and_self)
      (show subB v' v' by unfold subB; exact BitVec.and_self) (show subB v' (v' ||| m') by rw [subB_iff]; intro j hj hv; rw [BitVec.getLsbD_or, hv]; rfl) hi hmm hmm' he
    rw [nb (x - y), nb (v - v'), not_sub, not_sub, a, b]
theorem sub_ok (v m v' m' : BitVec 64) : okT (subV v m v' m').1 (subV v m v' m').2 := by
  unfold okT subV
  simp only
  rw [bb]; intro i hi
  simp only [BitVec.getLsbD_and, BitVec.getLsbD_not, BitVec.getLsbD_zero, decide_eq_true hi, Bool.true_and]
  cases ((v - v' + m ^^^ v - v' - m') ||| m ||| m').getLsbD i <;> simp
/-! ### products, bit by bit -/
/-- One row of a product: what is added to the unknown. -/
def mulStep (a am b bm : BitVec 64) (i : Nat) (q : BitVec 64 × BitVec 64) : BitVec 64 × BitVec 64 :=
  if a.getLsbD i = true then addV q.1 q.2 0#64 (bm <<< i) else if am.getLsbD i = true then addV q.1 q.2 0#64 ((bm <<< i) ||| (b <<< i)) else q
def mulQ (a am b bm : BitVec 64) : Nat → BitVec 64 × BitVec 64
  | 0 => (0#64, 0#64)
  | i + 1 => mulStep a am b bm i (mulQ a am b bm i)
/-- The lowest n bits of x, as a number. -/
def lowB' (x : BitVec 64) (n : Nat) : BitVec 64 := x &&& BitVec.ofNat 64 (2 ^ n - 1)
theorem okT_zero (m : BitVec 64) : okT 0#64 m := by unfold okT; simp
theorem mulQ_ok (a am b bm : BitVec 64) : ∀ n, okT (mulQ a am b bm n).1 (mulQ a am b bm n).2
  | 0 => okT_zero _
  | n + 1 => by
    unfold mulQ mulStep
    split
    · exact add_ok _ _ _ _
    split
    · exact add_ok _ _ _ _
    · exact mulQ_ok a am b bm n
/-- The sum of the rows of x times y. -/
def rows' (x y : BitVec 64) : Nat → BitVec 64
  | 0 => 0#64
  | i + 1 => rows' x y i + (if x.getLsbD i = true then y <<< i else 0#64)
theorem mul_rows (x y : BitVec 64) : x * y = rows' x y 64 := by
  have h : ∀ n, n ≤ 64 → rows' x y n = (BitVec.ofNat 64 (x.toNat % 2 ^ n)) * y := by
    intro n
    induction n with
    | zero => intro _; simp [rows', Nat.mod_one]
    | succ n ih =>
      intro hn
      simp only [rows']
      rw [ih (by omega)]
      have e : x.toNat % 2 ^ (n + 1) = x.toNat % 2 ^ n + 2 ^ n * (x.toNat.testBit n).toNat := by
        rw [Nat.mod_pow_succ]
        congr 2
        rw [Nat.testBit_eq_decide_div_mod_eq]
        rcases Nat.mod_two_eq_zero_or_one (x.toNat / 2 ^ n) with h | h <;> simp [h]
      rw [e]
      have hb : x.getLsbD n = x.toNat.testBit n := rfl
      rw [hb]
      cases x.toNat.testBit n with
      | false => simp
      | true =>
        simp only [if_true, Bool.toNat_true, Nat.mul_one]
        rw [BitVec.ofNat_add, BitVec.add_mul]
        congr 1
        rw [BitVec.shiftLeft_eq_mul_twoPow, BitVec.mul_comm]
        congr 1
        apply BitVec.eq_of_toNat_eq
        rw [BitVec.toNat_twoPow, BitVec.toNat_ofNat]
  rw [h 64 (Nat.le_refl _), Nat.mod_eq_of_lt x.isLt, BitVec.ofNat_toNat, BitVec.setWidth_eq]
theorem mul_in {a am b bm x y : BitVec 64} (k : okT a am) (k' : okT b bm) (h : inT a am x) (h' : inT b bm y) : ∀ n, n ≤ 64 → inT (mulQ a am b bm n).1 (mulQ a am b bm n).2 (rows' x y n - rows' a b n)
  | 0, _ => by unfold mulQ rows' inT; simp
  | n + 1, hn => by
    have ih := mul_in k k' h h' n (by omega)
    have hxa : x.getLsbD n = true → a.getLsbD n = true ∨ am.getLsbD n = true := by
      intro hx
      have := subB_iff.1 (inT_high h) n (by omega) hx
      rw [BitVec.getLsbD_or] at this
      simpa using this
    have hax := subB_iff.1 (inT_low h) n (by omega)
    unfold mulQ mulStep rows'
    cases ha : a.getLsbD n with
    | true =>
      simp only [if_true, hax ha]
      have e : rows' x y n + y <<< n - (rows' a b n + b <<< n) = (rows' x y n - rows' a b n) + (y <<< n - b <<< n) := by
        simp only [BitVec.sub_eq_add_neg, BitVec.neg_add]; ac_rfl
      rw [e]
      refine add_in (mulQ_ok a am b bm n) (okT_zero _) ih ?_
      have e2 : y <<< n - b <<< n = (y - b) <<< n := by
        rw [BitVec.shiftLeft_eq_mul_twoPow, BitVec.shiftLeft_eq_mul_twoPow, BitVec.shiftLeft_eq_mul_twoPow, BitVec.sub_eq_add_neg, BitVec.sub_eq_add_neg, BitVec.add_mul, BitVec.neg_mul]
      rw [e2]
      have hd : y - b = y &&& bm := by
        have h1 : y = b + (y &&& bm) := by
          rw [BitVec.add_eq_or_of_and_eq_zero]
          · rw [bb]; intro i hi
            have := bb.1 h' i hi
            simp only [BitVec.getLsbD_and, BitVec.getLsbD_not, BitVec.getLsbD_or, decide_eq_true hi, Bool.true_and] at this ⊢
            rw [← this]; cases y.getLsbD i <;> cases bm.getLsbD i <;> rfl
          · rw [bb]; intro i hi
            have := bb.1 h' i hi
            simp only [BitVec.getLsbD_and, BitVec.getLsbD_not, BitVec.getLsbD_zero, decide_eq_true hi, Bool.true_and] at this ⊢
            rw [← this]; cases y.getLsbD i <;> cases bm.getLsbD i <;> rfl
        conv => lhs; lhs; rw [h1]
        rw [BitVec.add_comm, BitVec.add_sub_cancel]
      rw [hd]
      unfold inT
      rw [bb]; intro i hi
      simp only [BitVec.getLsbD_and, BitVec.getLsbD_not, BitVec.getLsbD_shiftLeft, BitVec.getLsbD_zero, decide_eq_true hi, Bool.true_and]
      cases decide (i < n) <;> cases y.getLsbD (i - n) <;> cases bm.getLsbD (i - n) <;> rfl
    | false =>
      simp only [Bool.false_eq_true, if_false, BitVec.add_zero]
      cases hm : am.getLsbD n with
      | true =>
        simp only [if_true]
        have e : ∀ z, rows' x y n + z - rows' a b n = (rows' x y n - rows' a b n) + z := by
          intro z; simp only [BitVec.sub_eq_add_neg]; ac_rfl
        rw [e]
        refine add_in (mulQ_ok a am b bm n) (okT_zero _) ih ?_
        have hy := inT_high h'
        unfold inT
        cases x.getLsbD n with
        | false => simp
        | true =>
          simp only [if_true]
          rw [bb]; intro i hi
          simp only [BitVec.getLsbD_and, BitVec.getLsbD_or, BitVec.getLsbD_not, BitVec.getLsbD_shiftLeft, BitVec.getLsbD_zero, decide_eq_true hi, Bool.true_and]
          by_cases hin : i < n
          · simp [hin]
          · have := subB_iff.1 hy (i - n) (by omega)
            rw [BitVec.getLsbD_or] at this
            simp only [hin, decide_false, Bool.not_false, Bool.true_and]
            cases h1 : y.getLsbD (i - n) with
            | false => rfl
            | true =>
              have := this h1
              cases h2 : b.getLsbD (i - n) <;> cases h3 : bm.getLsbD (i - n) <;> simp [h2, h3] at this ⊢
      | false =>
        have : x.getLsbD n = false := by
          cases hx : x.getLsbD n with
          | false => rfl
          | true => have := hxa hx; rw [ha, hm] at this; simp at this
        simp only [Bool.false_eq_true, if_false, this, BitVec.add_zero]
        exact ih
/-- Beyond the bits of a there is nothing to add. -/
theorem mulQ_stop {a am b bm : BitVec 64} {n : Nat} (h : (a ||| am).toNat < 2 ^ n) : ∀ m, mulQ a am b bm (n + m) = mulQ a am b bm n
  | 0 => rfl
  | m + 1 => by
    show mulStep a am b bm (n + m) (mulQ a am b bm (n + m)) = _
    unfold mulStep
    have hz : (a ||| am).getLsbD (n + m) = false := by
      show (a ||| am).toNat.testBit (n + m) = false
      apply Nat.testBit_lt_two_pow
      exact Nat.lt_of_lt_of_le h (Nat.pow_le_pow_right (by omega) (by omega))
    rw [BitVec.getLsbD_or, Bool.or_eq_false_iff] at hz
    rw [hz.1, hz.2]
    simp only [Bool.false_eq_true, if_false]
    exact mulQ_stop h m
def mulV (a am b bm : BitVec 64) : BitVec 64 × BitVec 64 := addV (a * b) 0#64 (mulQ a am b bm 64).1 (mulQ a am b bm 64).2
theorem mulV_in {a am b bm x y : BitVec 64} (k : okT a am) (k' : okT b bm) (h : inT a am x) (h' : inT b bm y) : inT (mulV a am b bm).1 (mulV a am b bm).2 (x * y) := by
  have h1 := mul_in k k' h h' 64 (Nat.le_refl _)
  rw [← mul_rows, ← mul_rows] at h1
  have h2 : x * y = a * b + (x * y - a * b) := by rw [BitVec.add_comm, BitVec.sub_add_cancel]
  rw [h2]
  unfold mulV
  refine add_in ?_ (mulQ_ok a am b bm 64) ?_ h1
  · unfold okT; simp
  · unfold inT; rw [show ~~~(0#64) = BitVec.allOnes 64 by decide, BitVec.and_allOnes]
theorem mulV_ok (a am b bm : BitVec 64) : okT (mulV a am b bm).1 (mulV a am b bm).2 := add_ok _ _ _ _
end Go.Eng
