import Derived.Test.YtflkcceicgaipaaFns
import Derived.Test.YtflkcceicgaipaaEnwZ2
set_option linter.unusedVariables false
set_option linter.unusedSimpArgs false
namespace Go.Proofs.Ytflkcceicgaipaa
open Go Go.Eng

noncomputable def inP (b : Bd) (x : Int) : Prop := (b.1 ≤ x ∧ x ≤ b.2.1) ∧ (b.2.2.1 ≤ I (B64 x) ∧ I (B64 x) ≤ b.2.2.2.1) ∧ U (B64 x &&& ~~~(B64 b.2.2.2.2.2)) = b.2.2.2.2.1
noncomputable def chkP (b : Bd) : Prop := b.1 ≤ b.2.1 ∧ b.2.2.1 ≤ b.2.2.2.1 ∧ b.2.2.2.2.1 = U (B64 b.2.2.2.2.1 &&& ~~~(B64 b.2.2.2.2.2))
noncomputable def withinP (p q : Bd) : Prop :=
  (p.1 ≤ q.1 ∧ q.1 ≤ p.2.1) ∧ (p.1 ≤ q.2.1 ∧ q.2.1 ≤ p.2.1) ∧ (p.2.2.1 ≤ q.2.2.1 ∧ q.2.2.1 ≤ p.2.2.2.1) ∧ (p.2.2.1 ≤ q.2.2.2.1 ∧ q.2.2.2.1 ≤ p.2.2.2.1) ∧
    U (B64 q.2.2.2.2.2 ||| B64 p.2.2.2.2.2) = p.2.2.2.2.2 ∧ U (B64 q.2.2.2.2.1 &&& ~~~(B64 p.2.2.2.2.2)) = p.2.2.2.2.1
open Classical in
theorem In_eq {R : Type} (x : PTs.D ps_bound_In) (k : PTs.D qs_bound_In → Option R) : F_bound_In R x k = k (decide (inP x.1 x.2)) := by
  obtain ⟨⟨a, b, c, d, v, m⟩, x⟩ := x
  simp only [F_bound_In, N_bound_In, F_bound_among_uint64, N_bound_among_uint64, F_bound_among_int64, N_bound_among_int64, F_tnum_In, N_tnum_In, F_tnum_tidy, N_tnum_tidy, br_k k, W.wrap_u64, W.wrap_i64, W.andNot_u64, B64_U, B64_I]
  exact congrArg k (dec_eq (by simp [W.pick, W.le, W.and2, W.eq, inP] <;> grind))
open Classical in
theorem Check_eq {R : Type} (x : PTs.D ps_bound_Check) (k : PTs.D qs_bound_Check → Option R) : F_bound_Check R x k = k (decide (chkP x)) := by
  obtain ⟨a, b, c, d, v, m⟩ := x
  simp only [F_bound_Check, N_bound_Check, F_tnum_Check, N_tnum_Check, F_tnum_tidy, N_tnum_tidy, br_k k, W.wrap_u64, W.wrap_i64, W.andNot_u64, B64_U, B64_I]
  exact congrArg k (dec_eq (by simp [W.pick, W.le, W.and2, W.eq, chkP] <;> grind))
open Classical in
theorem Within_eq {R : Type} (x : PTs.D ps_bound_Within) (k : PTs.D qs_bound_Within → Option R) : F_bound_Within R x k = k (decide (withinP x.1 x.2)) := by
  obtain ⟨⟨a, b, c, d, v, m⟩, ⟨a', b', c', d', v', m'⟩⟩ := x
  simp only [F_bound_Within, N_bound_Within, F_bound_among_uint64, N_bound_among_uint64, F_bound_among_int64, N_bound_among_int64, F_tnum_In, N_tnum_In, F_tnum_tidy, N_tnum_tidy, F_tnum_Within, N_tnum_Within,
    br_k k, W.wrap_u64, W.wrap_i64, W.andNot_u64, W.or_u64, B64_U, B64_I]
  exact congrArg k (dec_eq (by simp [W.pick, W.le, W.and2, W.eq, withinP] <;> grind))
theorem heads_eq {R : Type} (x : PTs.D ps_clevislaw08heads) (k : PTs.D qs_clevislaw08heads → Option R) : F_clevislaw08heads R x k = k true := by kernel_rfl

theorem within_in {p q : Bd} {y : Int} (h : withinP p q) (h' : inP q y) : inP p y := by
  obtain ⟨h1, h2, h3, h4, h5, h6⟩ := h
  obtain ⟨h7, h8, h9⟩ := h'
  refine ⟨by omega, by omega, ?_⟩
  rw [← h6, ← h9, ← h5, B64_U, B64_U, U_inj]
  ext i hi
  simp
  cases (B64 q.2.2.2.2.2)[i] <;> simp
open Classical in
theorem holds_pure (x : PTs.D ps_clevislaw08BoundHolds) (hw : WfL ps_clevislaw08BoundHolds x) :
    L_clevislaw08BoundHolds F_bound_Check F_bound_In F_clevislaw08heads F_bound_Within x = some () := by
  obtain ⟨⟨a, b, c, d, v, m⟩, ⟨a', b', c', d', v', m'⟩, y⟩ := x
  simp only [L_clevislaw08BoundHolds, Check_eq, In_eq, Within_eq, heads_eq]
  have key := @within_in (a, b, c, d, v, m) (a', b', c', d', v', m') y
  by_cases hc : chkP (a, b, c, d, v, m) <;> by_cases hc' : chkP (a', b', c', d', v', m') <;> by_cases hi : withinP (a, b, c, d, v, m) (a', b', c', d', v', m') <;> by_cases hn : inP (a', b', c', d', v', m') y <;>
    simp [hc, hc', hi, hn, W.not, W.pick, br]
  simp [key hi hn]
end Go.Proofs.Ytflkcceicgaipaa
namespace Go.Proofs.Ytflkcceicgaipaa
open Go Go.Eng
theorem boundHolds_law (x : PTs.D ps_clevislaw08BoundHolds) (hw : WfL ps_clevislaw08BoundHolds x) :
    ∃ (C : Cfg) (fl d : Nat), CfgOk C ∧ C.P = Try.prog ∧ call C fl d 5 (encL false ps_clevislaw08BoundHolds x) [] getL = some () :=
  E_clevislaw08BoundHolds ok_bound_Check ok_bound_In ok_clevislaw08heads ok_bound_Within x (holds_pure x hw)
end Go.Proofs.Ytflkcceicgaipaa
