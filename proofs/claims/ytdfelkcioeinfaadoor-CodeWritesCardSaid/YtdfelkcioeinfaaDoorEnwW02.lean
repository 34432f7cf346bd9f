import Derived.Test.YtdfelkcioeinfaaDoorEnwW01
set_option linter.unusedVariables false
set_option linter.unusedSimpArgs false
namespace Go.Eng
open Go
namespace W
theorem toNat_nat (n : Nat) : W.toNat (n : Int) = n := by simp [W.toNat]
theorem ofNat_eq (n : Nat) : W.ofNat n = (n : Int) := by unfold W.ofNat; rfl
theorem len_eq {α : Type} (l : List α) : W.len l = l.length := by unfold W.len; rfl
theorem get_eq {α : Type} (l : List α) (i : Nat) (d : α) : W.get l i d = l.getD i d := by unfold W.get; rfl
theorem set_eq {α : Type} (l : List α) (i : Nat) (d : α) : W.set l i d = l.set i d := by unfold W.set; rfl
theorem add_eq (a b : Int) : W.add a b = a + b := by unfold W.add; rfl
theorem sub_eq (a b : Int) : W.sub a b = a - b := by unfold W.sub; rfl
theorem mul_eq (a b : Int) : W.mul a b = a * b := by unfold W.mul; rfl
theorem succ64 {t : Nat} (h : t < 9223372036854775807) : W.wrap .i64 (W.add (t : Int) 1) = ((t + 1 : Nat) : Int) := by
  rw [W.add_eq, W.wi64_id (by omega) (by omega)]; omega
theorem mul8 {t : Nat} (h : t < 100000000) : W.wrap .i64 (W.mul 8 (t : Int)) = ((8 * t : Nat) : Int) := by
  rw [W.mul_eq, W.wi64_id (by omega) (by omega)]; omega
theorem and2_d {p q : Prop} [Decidable p] [Decidable q] : W.and2 (decide p) (decide q) = decide (p ∧ q) := by simp [W.and2]
theorem eq_d {a b : Int} : W.eq a b = decide (a = b) := by rw [Bool.eq_iff_iff, W.eq_t]; simp
theorem ne_d {a b : Int} : W.ne a b = decide (a ≠ b) := by rw [Bool.eq_iff_iff, W.ne_t]; simp
theorem lt_d {a b : Int} : W.lt a b = decide (a < b) := by rw [Bool.eq_iff_iff, W.lt_t]; simp
theorem le_d {a b : Int} : W.le a b = decide (a ≤ b) := by rw [Bool.eq_iff_iff, W.le_t]; simp
theorem gt_d {a b : Int} : W.gt a b = decide (b < a) := by rw [Bool.eq_iff_iff, W.gt_t]; simp
theorem ge_d {a b : Int} : W.ge a b = decide (b ≤ a) := by rw [Bool.eq_iff_iff, W.ge_t]; simp
theorem lt_irr (a : Int) : W.lt a a = false := by rw [W.lt_d]; simp
theorem pick_eq (c x y : Bool) : W.pick c x y = bif c then x else y := by unfold W.pick; rfl
theorem not_eq (c : Bool) : W.not c = !c := by unfold W.not; rfl
end W
theorem rep_over {α : Type} (l : List α) (z : α) (n : Nat) (h : n = l.length) : W.over (W.rep n z) 0 l = l := by
  subst h
  simp [W.over, W.rep]
theorem copy_over {α : Type} (l : List α) (z : α) : W.over (W.rep (W.toNat (W.ofNat (W.len l))) z) 0 (W.slice l 0 (W.minN (W.len l) (W.toNat (W.ofNat (W.len l))))) = l := by
  have h1 : W.toNat (W.ofNat (W.len l)) = l.length := by rw [W.ofNat_eq, W.toNat_nat, W.len_eq]
  have h2 : W.minN (W.len l) l.length = l.length := by simp [W.minN, W.len]
  have h3 : W.slice l 0 l.length = l := by simp [W.slice]
  rw [h1, h2, h3, rep_over l z _ rfl]
variable {R : Type}
theorem br_pos {α : Type} {c : Bool} (h : c = true) (x y : α) : br c x y = x := by subst h; exact br_t x y
theorem br_neg {α : Type} {c : Bool} (h : c = false) (x y : α) : br c x y = y := by subst h; exact br_f x y
theorem eta2 {α β : Type} (p : α × β) : (p.1, p.2) = p := rfl
theorem br_d {α : Type} {p : Prop} [Decidable p] (x y : α) : br (decide p) x y = if p then x else y := by by_cases h : p <;> simp [h, br_ite]
theorem br_nd {α : Type} {p : Prop} [Decidable p] (x y : α) : br (!decide p) x y = if p then y else x := by by_cases h : p <;> simp [h, br_ite]
theorem br_n {α : Type} (c : Bool) (x y : α) : br (!c) x y = br c y x := by cases c <;> simp [br_ite]
theorem ite_ite {α : Type} {p q : Prop} [Decidable p] [Decidable q] (x y : α) : (if p then (if q then x else y) else y) = if p ∧ q then x else y := by
  by_cases hp : p <;> by_cases hq : q <;> simp [hp, hq]
open Classical in
theorem k_ite {α : Type} {p : Prop} {k : α → Option R} {a b : α} : (if p then k a else k b) = k (if p then a else b) := by split <;> rfl
open Classical in
theorem kb_ite {p : Prop} {k : Bool → Option R} : (if p then k true else k false) = k (decide p) := by by_cases h : p <;> simp [h]
open Classical in
theorem kp_ite {α : Type} {p : Prop} {k : Bool × α → Option R} {r : α} : (if p then k (true, r) else k (false, r)) = k (decide p, r) := by by_cases h : p <;> simp [h]
theorem b_ite {α : Type} {c : Bool} {i1 i2 : Decidable (c = true)} {x y : α} : @ite α (c = true) i1 x y = @ite α (c = true) i2 x y := by congr
open Classical in
/-- A loop that asks of all numbers from t up to N whether they pass. -/
theorem loop_all {α : Type} {P : Nat → Int → α} {N : Nat} {c : Nat → Prop} {kt kf : α}
    (hs : ∀ n t, t < N → P (n + 1) (t : Int) = if c t then P n ((t + 1 : Nat) : Int) else kf) (he : ∀ n, P (n + 1) (N : Int) = kt) :
    ∀ (m f t : Nat), t + m = N → m < f → P f (t : Int) = if (∀ i, t ≤ i → i < N → c i) then kt else kf
  | 0, f, t, ht, hf => by
    obtain ⟨g, rfl⟩ : ∃ g, f = g + 1 := ⟨f - 1, by omega⟩
    have : t = N := by omega
    subst this
    rw [he, if_pos (fun i h1 h2 => by omega)]
  | m + 1, f, t, ht, hf => by
    obtain ⟨g, rfl⟩ : ∃ g, f = g + 1 := ⟨f - 1, by omega⟩
    rw [hs g t (by omega)]
    by_cases hc : c t
    · rw [if_pos hc, loop_all hs he m g (t + 1) (by omega) (by omega)]
      by_cases ha : ∀ i, t + 1 ≤ i → i < N → c i
      · rw [if_pos ha, if_pos]
        intro i h1 h2
        rcases Nat.lt_or_ge t i with h | h
        · exact ha i h h2
        · have : i = t := by omega
          subst this; exact hc
      · rw [if_neg ha, if_neg]
        exact fun h => ha fun i h1 h2 => h i (by omega) h2
    · rw [if_neg hc, if_neg]
      exact fun h => hc (h t (by omega) (by omega))
theorem big_lt {n : Nat} (h : n < 18446744073709551616) : n < W.big := by unfold W.big; exact h
end Go.Eng
