import Derived.Test.YtbngpphpdabakaaLawA
set_option linter.unusedVariables false
set_option linter.unusedSimpArgs false
set_option maxHeartbeats 4000000
set_option maxRecDepth 100000
namespace Go.Proofs.Ytbngpphpdabakaa
open Go Go.Eng
variable {R : Type}
/-! ### what an op is -/
theorem fin256 {P : Int → Prop} (h : ∀ i : Fin 256, P (i.val : Int)) {x : Int} (h0 : 0 ≤ x) (h1 : x ≤ 255) : P x := by
  have := h ⟨x.toNat, by omega⟩
  rwa [show (((⟨x.toNat, by omega⟩ : Fin 256).val : Nat) : Int) = x by show ((x.toNat : Nat) : Int) = x; omega] at this
def clsT (op : Int) : Int := if op < 0 ∨ 255 < op then -1 else op % 8
def aluT (op : Int) : Int × Bool × Bool :=
  if op < 0 ∨ 255 < op then (0, false, false) else
  if (op % 8 ≠ 4 ∧ op % 8 ≠ 7) ∨ (alu (op / 16 * 16) 0 0 true).2 = false ∨ (op / 16 * 16 = 128 ∧ op / 8 % 2 = 1) then (0, false, false) else (op / 16 * 16, decide (op % 8 = 7), true)
def jmpT (op : Int) : Int × Bool × Bool :=
  if op < 0 ∨ 255 < op then (0, false, false) else
  if (op % 8 ≠ 5 ∧ op % 8 ≠ 6) ∨ (cnd (op / 16 * 16) 0 0 true).2 = false then (0, false, false) else (op / 16 * 16, decide (op % 8 = 5), true)
def sizT (op : Int) : Int :=
  if op = 97 ∨ op = 98 ∨ op = 99 then 4 else if op = 105 ∨ op = 106 ∨ op = 107 then 2 else if op = 113 ∨ op = 114 ∨ op = 115 then 1 else if op = 121 ∨ op = 122 ∨ op = 123 then 8 else 0
theorem rng_t {x : Int} : W.pick (W.lt x 0) true (W.gt x 255) = decide (x < 0 ∨ 255 < x) := by
  rw [Bool.eq_iff_iff, W.picko_t, W.lt_t]; simp [W.gt]
theorem class_eq (x : Int) (k : Int → Option R) : F_legal_class R x k = k (clsT x) := by
  simp only [F_legal_class, N_legal_class, br_k k, rng_t, clsT]
  refine congrArg k ?_
  by_cases h : x < 0 ∨ 255 < x
  · rw [if_pos h, decide_eq_true h]; rfl
  · rw [if_neg h, decide_eq_false h]
    show W.wrap .i64 (W.and .i64 x 7) = x % 8
    exact fin256 (P := fun x => W.wrap .i64 (W.and .i64 x 7) = x % 8) (by decide +kernel) (by omega) (by omega)
theorem p64_0 : p64 0 := ⟨by omega, by omega⟩
theorem lalu_eq (x : Int) (k : Int × Bool × Bool → Option R) : F_legal_Alu R x k = k (aluT x) := by
  simp only [F_legal_Alu, N_legal_Alu, class_eq]
  rw [alu_eq (_, 0, 0, true) p64_0 p64_0]
  simp only [br_k k]
  refine congrArg k ?_
  by_cases h : x < 0 ∨ 255 < x
  · unfold clsT aluT
    rw [if_pos h, if_pos h]; rfl
  · unfold clsT
    rw [if_neg h]
    exact fin256 (P := fun x => (bif W.pick (W.pick (W.pick (W.ne (x % 8) 4) (W.ne (x % 8) 7) false) true (W.not (alu (W.wrap .i64 (W.and .i64 x 240)) 0 0 true).2)) true
              (W.pick (W.eq (W.wrap IntKind.i64 (W.and IntKind.i64 x 240)) 128) (W.gt (W.wrap IntKind.i64 (W.and IntKind.i64 x 8)) 0) false) then (0, false, false) else (W.wrap IntKind.i64 (W.and IntKind.i64 x 240), W.eq (x % 8) 7, true)) = aluT x)
      (by decide +kernel) (by omega) (by omega)
theorem ralu4_eq (x : Int) (k : Int × Bool × Bool → Option R) : F_clevisref04Alu R x k = k (aluT x) := by
  simp only [F_clevisref04Alu, N_clevisref04Alu, br_k k, rng_t]
  refine congrArg k ?_
  by_cases h : x < 0 ∨ 255 < x
  · unfold aluT
    rw [if_pos h, decide_eq_true h]; rfl
  · rw [decide_eq_false h]
    exact fin256 (P := fun x => (bif
        (W.pick
          (W.pick (W.pick false true (W.pick (W.ne (W.wrap IntKind.i64 (W.and IntKind.i64 x 7)) 4) (W.ne (W.wrap IntKind.i64 (W.and IntKind.i64 x 7)) 7) false)) true
            (W.gt (W.wrap IntKind.i64 (W.andNot IntKind.i64 x 15)) 192))
          true (W.pick (W.eq (W.wrap IntKind.i64 (W.andNot IntKind.i64 x 15)) 128) (W.ne (W.wrap IntKind.i64 (W.and IntKind.i64 x 8)) 0) false)) then (0, false, false)
        else (W.wrap IntKind.i64 (W.andNot IntKind.i64 x 15), W.eq (W.wrap IntKind.i64 (W.and IntKind.i64 x 7)) 7, true)) = aluT x)
      (by decide +kernel) (by omega) (by omega)
theorem ljmp_eq (x : Int) (k : Int × Bool × Bool → Option R) : F_legal_Jump R x k = k (jmpT x) := by
  simp only [F_legal_Jump, N_legal_Jump, class_eq, cond_eq, br_k k]
  refine congrArg k ?_
  by_cases h : x < 0 ∨ 255 < x
  · unfold clsT jmpT
    rw [if_pos h, if_pos h]; rfl
  · unfold clsT
    rw [if_neg h]
    exact fin256 (P := fun x => (bif W.pick (W.pick (W.ne (x % 8) 5) (W.ne (x % 8) 6) false) true (W.not (cnd (W.wrap .i64 (W.and .i64 x 240)) 0 0 true).2) then (0, false, false)
        else (W.wrap IntKind.i64 (W.and IntKind.i64 x 240), W.eq (x % 8) 5, true)) = jmpT x)
      (by decide +kernel) (by omega) (by omega)
theorem rjmp4_eq (x : Int) (k : Int × Bool × Bool → Option R) : F_clevisref04Jump R x k = k (jmpT x) := by
  simp only [F_clevisref04Jump, N_clevisref04Jump, br_k k, rng_t]
  refine congrArg k ?_
  by_cases h : x < 0 ∨ 255 < x
  · unfold jmpT
    rw [if_pos h, decide_eq_true h]; rfl
  · rw [decide_eq_false h]
    exact fin256 (P := fun x => (bif
        (W.pick
          (W.pick
            (W.pick
              (W.pick (W.pick false true (W.pick (W.ne (W.wrap IntKind.i64 (W.and IntKind.i64 x 7)) 5) (W.ne (W.wrap IntKind.i64 (W.and IntKind.i64 x 7)) 6) false)) true
                (W.eq (W.wrap IntKind.i64 (W.andNot IntKind.i64 x 15)) 0))
              true (W.eq (W.wrap IntKind.i64 (W.andNot IntKind.i64 x 15)) 128))
            true (W.eq (W.wrap IntKind.i64 (W.andNot IntKind.i64 x 15)) 144))
          true (W.gt (W.wrap IntKind.i64 (W.andNot IntKind.i64 x 15)) 208)) then (0, false, false)
        else (W.wrap IntKind.i64 (W.andNot IntKind.i64 x 15), W.eq (W.wrap IntKind.i64 (W.and IntKind.i64 x 7)) 5, true)) = jmpT x)
      (by decide +kernel) (by omega) (by omega)
theorem lsize_eq (x : Int) (k : Int → Option R) : F_legal_Size R x k = k (sizT x) := by
  simp only [F_legal_Size, N_legal_Size, class_eq, br_k k]
  refine congrArg k ?_
  by_cases h : x < 0 ∨ 255 < x
  · unfold clsT sizT
    rw [if_pos h, if_neg (by omega), if_neg (by omega), if_neg (by omega), if_neg (by omega)]; rfl
  · unfold clsT
    rw [if_neg h]
    let s (x : Int) : Int := bif W.eq (W.wrap IntKind.i64 (W.andNot IntKind.i64 x 7)) 96 then 4 else bif W.eq (W.wrap IntKind.i64 (W.andNot IntKind.i64 x 7)) 104 then 2 else bif W.eq (W.wrap IntKind.i64 (W.andNot IntKind.i64 x 7)) 112 then 1 else bif W.eq (W.wrap IntKind.i64 (W.andNot IntKind.i64 x 7)) 120 then 8 else 0
    exact fin256 (P := fun x => (bif W.eq (x % 8) 1 then s x else bif W.eq (x % 8) 2 then s x else bif W.eq (x % 8) 3 then s x else 0) = sizT x) (by decide +kernel) (by omega) (by omega)
theorem rsize4_eq (x : Int) (k : Int → Option R) : F_clevisref04Size R x k = k (sizT x) := by
  simp only [F_clevisref04Size, N_clevisref04Size, br_k k]
  refine congrArg k ?_
  by_cases h : x = 97 ∨ x = 98 ∨ x = 99 ∨ x = 105 ∨ x = 106 ∨ x = 107 ∨ x = 113 ∨ x = 114 ∨ x = 115 ∨ x = 121 ∨ x = 122 ∨ x = 123
  · rcases h with h | h | h | h | h | h | h | h | h | h | h | h <;> subst h <;> rfl
  · simp only [not_or] at h
    obtain ⟨h1, h2, h3, h4, h5, h6, h7, h8, h9, h10, h11, h12⟩ := h
    have e : ∀ {n : Int}, x ≠ n → W.eq x n = false := fun h => by rw [W.eq_d]; exact decide_eq_false h
    simp only [e h1, e h2, e h3, e h4, e h5, e h6, e h7, e h8, e h9, e h10, e h11, e h12, cond_false, sizT]
    rw [if_neg (by omega), if_neg (by omega), if_neg (by omega), if_neg (by omega)]
end Go.Proofs.Ytbngpphpdabakaa
