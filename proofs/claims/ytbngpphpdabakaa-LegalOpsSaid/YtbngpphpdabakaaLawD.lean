import Derived.Test.YtbngpphpdabakaaLawC
set_option linter.unusedVariables false
set_option linter.unusedSimpArgs false
set_option maxHeartbeats 4000000
set_option maxRecDepth 100000
namespace Go.Proofs.Ytbngpphpdabakaa
open Go Go.Eng
variable {R : Type}
/-! ### the document's answer: which instructions may be -/
noncomputable def rfP (x : In) (d : Int) (s o i : Bool) : Prop := fldP x d ∧ (s = true ∨ x.2.2.1 = 0) ∧ (o = true ∨ x.2.2.2.1 = 0) ∧ (i = true ∨ x.2.2.2.2.1 = 0) ∧ x.2.2.2.2.2 = 0
open Classical in
theorem rfields_eq (x : PTs.D ps_clevisref04fields) (k : Bool → Option R) : F_clevisref04fields R x k = k (decide (rfP x.1 x.2.1 x.2.2.1 x.2.2.2.1 x.2.2.2.2)) := by
  obtain ⟨⟨(a : Int), (b : Int), (c : Int), (e : Int), (f : Int), (g : Int)⟩, (d : Int), (s : Bool), (o : Bool), (i : Bool)⟩ := x
  simp only [F_clevisref04fields, N_clevisref04fields, rwithin_eq, br_k k]
  refine congrArg k (dec_eq (p := rfP (a, b, c, e, f, g) d s o i) ?_)
  simp only [rfP, fldP]
  by_cases h1 : 0 ≤ b ∧ b ≤ d
  rotate_left
  · simp [h1, W.not]
  by_cases h2 : 0 ≤ c ∧ c ≤ 10
  rotate_left
  · simp [h1, h2, W.not, W.pick]
  by_cases h3 : -32768 ≤ e ∧ e ≤ 32767
  rotate_left
  · simp [h1, h2, h3, W.not, W.pick]
  by_cases h4 : -2147483648 ≤ f ∧ f ≤ 2147483647
  rotate_left
  · simp [h1, h2, h3, h4, W.not, W.pick]
  simp [h1, h2, h3, h4, W.not, W.pick, W.eq]
  cases s <;> cases o <;> cases i <;> simp <;> grind
noncomputable def ralP (x : In) (o : Int) (w : Bool) : Prop :=
  rfP x 9 (decide (r8 x.1 ≠ 0)) false (decide (r8 x.1 = 0 ∧ o ≠ 128)) ∧ (r8 x.1 ≠ 0 ∨ ¬ isSh o ∨ (0 ≤ x.2.2.2.2.1 ∧ x.2.2.2.2.1 ≤ (if w = true then 63 else 31)))
open Classical in
theorem ralu3_eq (x : PTs.D ps_clevisref04alu) (k : Bool → Option R) : F_clevisref04alu R x k = k (decide (ralP x.1 x.2.1 x.2.2)) := by
  obtain ⟨⟨(a : Int), (b : Int), (c : Int), (e : Int), (f : Int), (g : Int)⟩, (o : Int), (w : Bool)⟩ := x
  simp only [F_clevisref04alu, N_clevisref04alu, rwithin_eq, rfields_eq, br_k k]
  refine congrArg k (dec_eq (p := ralP (a, b, c, e, f, g) o w) ?_)
  unfold ralP
  have e1 : W.ne (W.wrap IntKind.i64 (W.and IntKind.i64 a 8)) 0 = decide (r8 a ≠ 0) := W.ne_d
  have e2 : W.pick (W.not (decide (r8 a ≠ 0))) (W.ne o 128) false = decide (r8 a = 0 ∧ o ≠ 128) := by
    rw [W.ne_d]; by_cases h : r8 a = 0 <;> simp [h, W.pick, W.not]
  have e3 : W.not (W.pick (decide (r8 a ≠ 0)) true (W.pick (W.pick (W.ne o 96) (W.ne o 112) false) (W.ne o 192) false)) = decide (¬ r8 a ≠ 0 ∧ isSh o) := by
    rw [W.ne_d, W.ne_d, W.ne_d]; unfold isSh
    by_cases h : r8 a = 0 <;> by_cases h1 : o = 96 <;> by_cases h2 : o = 112 <;> by_cases h3 : o = 192 <;> simp [h, h1, h2, h3, W.pick, W.not]
  simp only [e1, e2, e3]
  by_cases h1 : rfP (a, b, c, e, f, g) 9 (decide (r8 a ≠ 0)) false (decide (r8 a = 0 ∧ o ≠ 128))
  rotate_left
  · rw [decide_eq_false h1]
    constructor
    · intro h; exact absurd h (by simp [W.not])
    · intro h; exact absurd h.1 h1
  rw [decide_eq_true h1]
  by_cases h2 : ¬ r8 a ≠ 0 ∧ isSh o
  · rw [decide_eq_true h2]
    cases w <;> simp [W.not, W.pick, h1, h2.2] <;> grind
  · rw [decide_eq_false h2]
    have h3 : r8 a ≠ 0 ∨ ¬ isSh o := by
      by_cases h : r8 a ≠ 0
      · exact .inl h
      · exact .inr fun h' => h2 ⟨h, h'⟩
    constructor
    · intro _; exact ⟨h1, h3.elim .inl (fun h => .inr (.inl h))⟩
    · intro _; cases w <;> rfl
noncomputable def rwdP (x : In) : Prop := (0 ≤ x.2.1 ∧ x.2.1 ≤ 9) ∧ x.2.2.2.1 = 0 ∧ (-2147483648 ≤ x.2.2.2.2.1 ∧ x.2.2.2.2.1 ≤ 2147483647) ∧
  (if x.2.2.1 = 1 then (0 ≤ x.2.2.2.2.1 ∧ x.2.2.2.2.1 ≤ 7) ∧ x.2.2.2.2.2 = x.2.2.2.2.1 % 18446744073709551616 else x.2.2.1 = 0 ∧ x.2.2.2.2.1 % 4294967296 = x.2.2.2.2.2 % 4294967296)
open Classical in
theorem rwide4_eq (x : PTs.D ps_clevisref04wide) (hg : 0 ≤ x.2.2.2.2.2) (k : Bool → Option R) : F_clevisref04wide R x k = k (decide (rwdP x)) := by
  obtain ⟨(a : Int), (b : Int), (c : Int), (e : Int), (f : Int), (g : Int)⟩ := x
  have hg : 0 ≤ g := hg
  simp only [F_clevisref04wide, N_clevisref04wide, rwithin_eq]
  rw [rimm_eq]
  simp only [br_k k]
  refine congrArg k (dec_eq (p := rwdP (a, b, c, e, f, g)) ?_)
  unfold rwdP
  have e1 : Eng.low (W.wrap .u64 (W.wrap .i32 f)) false = f % 4294967296 := by
    unfold Eng.low; rw [W.wu64, W.wi32]; simp only [Bool.false_eq_true, if_false]; split <;> omega
  have e2 : W.rem g 4294967296 = g % 4294967296 := by unfold W.rem; rw [Int.tmod_eq_emod_of_nonneg hg]
  simp only [e1, e2]
  simp only [W.wu64]
  by_cases h1 : 0 ≤ b ∧ b ≤ 9
  rotate_left
  · simp [h1, W.not, W.pick]
  by_cases h2 : e = 0
  rotate_left
  · simp [h1, h2, W.not, W.pick, W.ne]
  by_cases h4 : -2147483648 ≤ f ∧ f ≤ 2147483647
  rotate_left
  · simp [h1, h2, h4, W.not, W.pick, W.ne]
  by_cases h3 : c = 1
  · simp [h1, h2, h3, h4, W.not, W.pick, W.ne, W.eq]
  · by_cases h5 : c = 0 <;> simp [h1, h2, h3, h4, h5, W.not, W.pick, W.ne, W.eq]
noncomputable def insR (x : In) : Prop :=
  if (aluT x.1).2.2 = true then ralP x (aluT x.1).1 (aluT x.1).2.1 else if (jmpT x.1).2.2 = true then rfP x 10 (decide (r8 x.1 ≠ 0)) true (decide (r8 x.1 = 0))
  else if x.1 = 5 then rfP x 0 false true false else if x.1 = 133 then rfP x 0 false false true ∧ 1 ≤ x.2.2.2.2.1 ∧ x.2.2.2.2.1 ≤ 5
  else if x.1 = 149 then rfP x 0 false false false else if x.1 = 24 then rwdP x
  else if sizT x.1 = 0 then False else if x.1 % 8 = 1 then rfP x 9 true true false else if x.1 % 8 = 2 then rfP x 10 false true true else rfP x 10 true true false
theorem siz_rng {a : Int} (h : ¬ sizT a = 0) : 0 ≤ a ∧ a ≤ 255 := by
  unfold sizT at h
  split at h; · omega
  split at h; · omega
  split at h; · omega
  split at h; · omega
  exact absurd rfl h
open Classical in
theorem rins4_eq (x : PTs.D ps_clevisref04Ins) (hg : 0 ≤ x.2.2.2.2.2) (k : Bool → Option R) : F_clevisref04Ins R x k = k (decide (insR x)) := by
  obtain ⟨(a : Int), (b : Int), (c : Int), (e : Int), (f : Int), (g : Int)⟩ := x
  simp only [F_clevisref04Ins, N_clevisref04Ins]
  rw [ralu4_eq, rjmp4_eq, rwide4_eq _ hg, rsize4_eq]
  simp only [rfields_eq, ralu3_eq, rwithin_eq]
  have e1 : W.ne (W.wrap IntKind.i64 (W.and IntKind.i64 a 8)) 0 = decide (r8 a ≠ 0) := W.ne_d
  have e2 : W.eq (W.wrap IntKind.i64 (W.and IntKind.i64 a 8)) 0 = decide (r8 a = 0) := W.eq_d
  rw [e1, e2]
  simp only [br_k k]
  refine congrArg k (dec_eq (p := insR (a, b, c, e, f, g)) ?_)
  unfold insR
  cases h1 : (aluT a).2.2 with
  | true => simp [h1]
  | false =>
  cases h2 : (jmpT a).2.2 with
  | true => simp [h1, h2]
  | false =>
  by_cases h3 : a = 5
  · simp [h1, h2, h3, W.eq]
  by_cases h4 : a = 133
  · simp only [h1, h2, if_neg h3, if_pos h4, W.eq_d, decide_eq_false h3, decide_eq_true h4, cond_false, cond_true, Bool.false_eq_true, if_false]
    by_cases h : rfP (a, b, c, e, f, g) 0 false false true
    · rw [decide_eq_true h, cond_true]; simp [W.pick, h]
    · rw [decide_eq_false h, cond_false]; simp [h]
  by_cases h5 : a = 149
  · simp [h1, h2, h3, h4, h5, W.eq]
  by_cases h6 : a = 24
  · simp [h1, h2, h3, h4, h5, h6, W.eq]
  by_cases h7 : sizT a = 0
  · simp [h1, h2, h3, h4, h5, h6, h7, W.eq]
  have e3 : W.wrap IntKind.i64 (W.and IntKind.i64 a 7) = a % 8 := fin256 (P := fun x => W.wrap .i64 (W.and .i64 x 7) = x % 8) (by decide +kernel) (siz_rng h7).1 (siz_rng h7).2
  rw [e3]
  by_cases h8 : a % 8 = 1
  · simp [h1, h2, h3, h4, h5, h6, h7, h8, W.eq]
  by_cases h9 : a % 8 = 2
  · simp [h1, h2, h3, h4, h5, h6, h7, h8, h9, W.eq]
  · simp [h1, h2, h3, h4, h5, h6, h7, h8, h9, W.eq]
theorem siz_cls {a : Int} (h : ¬ sizT a = 0) : clsT a = a % 8 ∧ a % 8 ≤ 3 ∧ 1 ≤ a % 8 := by
  have := siz_rng h
  refine ⟨by unfold clsT; rw [if_neg (by omega)], ?_⟩
  unfold sizT at h
  split at h; · omega
  split at h; · omega
  split at h; · omega
  split at h; · omega
  exact absurd rfl h
theorem alu_cls {a : Int} (h : (aluT a).2.2 = true) : a ≠ 24 := by
  rintro rfl; exact absurd h (by decide)
theorem jmp_cls {a : Int} (h : (jmpT a).2.2 = true) : a ≠ 24 ∧ clsT a ≠ 1 := by
  refine ⟨by rintro rfl; exact absurd h (by decide), ?_⟩
  unfold jmpT at h
  split at h; · exact absurd h (by simp)
  split at h; · exact absurd h (by simp)
  rename_i h1 h2
  unfold clsT; rw [if_neg h1]; omega
theorem ins_same {x : In} (hg : 0 ≤ x.2.2.2.2.2 ∧ x.2.2.2.2.2 < 18446744073709551616) : insL x ↔ insR x := by
  obtain ⟨(a : Int), (b : Int), (c : Int), (e : Int), (f : Int), (g : Int)⟩ := x
  simp only at hg
  have hr := r8_nn a
  unfold insL insR bodyP
  simp only
  cases h1 : (aluT a).2.2 with
  | true =>
    have h24 := alu_cls h1
    simp only [true_or, if_true, lalP, ralP, rfP, fldP, opnP]
    unfold isSh
    generalize (aluT a).1 = o
    cases (aluT a).2.1 <;> simp only [if_true, Bool.false_eq_true, if_false, false_and, true_and, false_or] <;> grind
  | false =>
  simp only [Bool.false_eq_true, false_or, if_false]
  cases h2 : (jmpT a).2.2 with
  | true =>
    have ⟨h24, hc1⟩ := jmp_cls h2
    simp only [if_true, rfP, fldP, opnP, hc1, h24, or_self, if_false]
    grind
  | false =>
  simp only [Bool.false_eq_true, if_false]
  unfold tailP
  simp only
  by_cases h3 : a = 5
  · subst h3
    have : clsT 5 = 5 := by decide
    simp only [this, rfP, fldP]
    grind
  by_cases h4 : a = 133
  · subst h4
    have : clsT 133 = 5 := by decide
    simp only [this, rfP, fldP]
    grind
  by_cases h5 : a = 149
  · subst h5
    have : clsT 149 = 5 := by decide
    simp only [this, rfP, fldP]
    grind
  by_cases h6 : a = 24
  · subst h6
    simp only [fldP, twoP, rwdP]
    by_cases h7 : c = 1
    · subst h7; simp; omega
    · simp [h7]; omega
  simp only [h3, h4, h5, h6, if_false, or_false]
  by_cases h7 : sizT a = 0
  · simp [h7]
  have ⟨c1, c2, c3⟩ := siz_cls h7
  rw [c1]
  simp only [h7, if_false, rfP, fldP]
  by_cases h8 : a % 8 = 1
  · simp [h8]; grind
  by_cases h9 : a % 8 = 2
  · simp [h9]; grind
  · simp [h8, h9]; grind
end Go.Proofs.Ytbngpphpdabakaa
