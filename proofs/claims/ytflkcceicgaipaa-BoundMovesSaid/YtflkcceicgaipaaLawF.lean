import Derived.Test.YtflkcceicgaipaaLawE
set_option linter.unusedVariables false
set_option linter.unusedSimpArgs false
set_option maxRecDepth 100000
namespace Go.Proofs.Ytflkcceicgaipaa
open Go Go.Eng

/-! ### what is in both, what is in one -/
noncomputable def narrowB (p q : Bd) (t : Int × Int) : Bd := (W.max p.1 q.1, W.min p.2.1 q.2.1, W.max p.2.2.1 q.2.2.1, W.min p.2.2.2.1 q.2.2.2.1, t.1, t.2)
noncomputable def meetB (p q : Bd) : Option Bd :=
  let t := meetT p.2.2.2.2.1 p.2.2.2.2.2 q.2.2.2.2.1 q.2.2.2.2.2
  bif t.2 then tidyB (narrowB p q t.1) else none
noncomputable def joinB (p q : Bd) : Bd :=
  (W.min p.1 q.1, W.max p.2.1 q.2.1, W.min p.2.2.1 q.2.2.1, W.max p.2.2.2.1 q.2.2.2.1,
    U ((B64 p.2.2.2.2.1 &&& B64 q.2.2.2.2.1) &&& ~~~((B64 p.2.2.2.2.2 ||| B64 q.2.2.2.2.2) ||| (B64 p.2.2.2.2.1 ^^^ B64 q.2.2.2.2.1))),
    U ((B64 p.2.2.2.2.2 ||| B64 q.2.2.2.2.2) ||| (B64 p.2.2.2.2.1 ^^^ B64 q.2.2.2.2.1)))
theorem BMeet_eq {R : Type} (x : PTs.D ps_bound_Meet) (k : PTs.D qs_bound_Meet → Option R) : F_bound_Meet R x k = k (opt (meetB x.1 x.2) ((0, 0, 0, 0, 0, 0), false) fun c => (c, true)) := by
  obtain ⟨⟨a, b, c, d, v, m⟩, ⟨a', b', c', d', v', m'⟩⟩ := x
  simp only [F_bound_Meet, N_bound_Meet, meetB]
  rw [Meet_eq]
  cases (meetT v m v' m').2
  · rfl
  · simp only [W.not, Bool.not_true, br, cond_false, cond_true, Tidy_eq]
    rfl
theorem Join_eq {R : Type} (x : PTs.D ps_bound_Join) (k : PTs.D qs_bound_Join → Option R) : F_bound_Join R x k = k (joinB x.1 x.2) := by
  obtain ⟨⟨a, b, c, d, v, m⟩, ⟨a', b', c', d', v', m'⟩⟩ := x
  simp only [F_bound_Join, N_bound_Join, F_tnum_Join, N_tnum_Join, F_tnum_tidy, N_tnum_tidy, W.wrap_u64, W.or_u64, W.and_u64, W.xor_u64, W.andNot_u64, B64_U, joinB]
theorem meet_wf {p q : Bd} (hp : wfB p) (hq : wfB q) : wfB (narrowB p q (meetT p.2.2.2.2.1 p.2.2.2.2.2 q.2.2.2.2.1 q.2.2.2.2.2).1) := by
  obtain ⟨h1, h2, h3, h4, h5, h6⟩ := hp
  obtain ⟨g1, g2, g3, g4, g5, g6⟩ := hq
  exact ⟨wf_max h1 g1, wf_min h2 g2, wf_max h3 g3, wf_min h4 g4, wf_U _, wf_U _⟩
theorem meet_chk (p q : Bd) : chkT (narrowB p q (meetT p.2.2.2.2.1 p.2.2.2.2.2 q.2.2.2.2.1 q.2.2.2.2.2).1) := by
  simp only [chkT, narrowB, meetT, B64_U]; rw [BitVec.and_assoc, BitVec.and_self]
theorem meet_in {p q : Bd} (hp : wfB p) (hq : wfB q) (cp : chkT p) (cq : chkT q) {x : Int} (hx : wfI .u64 x) :
    (inP p x ∧ inP q x) ↔ ((meetT p.2.2.2.2.1 p.2.2.2.2.2 q.2.2.2.2.1 q.2.2.2.2.2).2 = true ∧ inP (narrowB p q (meetT p.2.2.2.2.1 p.2.2.2.2.2 q.2.2.2.2.1 q.2.2.2.2.2).1) x) := by
  obtain ⟨w1, w2, w3, w4, w5, w6⟩ := hp
  obtain ⟨u1, u2, u3, u4, u5, u6⟩ := hq
  have hm := @meet_bits (B64 x) (B64 p.2.2.2.2.1) (B64 p.2.2.2.2.2) (B64 q.2.2.2.2.1) (B64 q.2.2.2.2.2) (chk_zero cp) (chk_zero cq)
  have e1 : U (B64 x &&& ~~~(B64 p.2.2.2.2.2)) = p.2.2.2.2.1 ↔ B64 x &&& ~~~(B64 p.2.2.2.2.2) = B64 p.2.2.2.2.1 := ⟨fun h => by rw [← h, B64_U], fun h => by rw [h, U_B64 w5]⟩
  have e2 : U (B64 x &&& ~~~(B64 q.2.2.2.2.2)) = q.2.2.2.2.1 ↔ B64 x &&& ~~~(B64 q.2.2.2.2.2) = B64 q.2.2.2.2.1 := ⟨fun h => by rw [← h, B64_U], fun h => by rw [h, U_B64 u5]⟩
  simp only [inP, narrowB, meetT, B64_U, U_inj, e1, e2, W.max_le, W.le_min, decide_eq_true_iff]
  grind
theorem meetB_none {p q : Bd} (hp : wfB p) (hq : wfB q) (cp : chkT p) (cq : chkT q) (h : meetB p q = none) {x : Int} (hx : wfI .u64 x) : ¬(inP p x ∧ inP q x) := by
  rw [meet_in hp hq cp cq hx]
  rintro ⟨h1, h2⟩
  simp only [meetB, h1, cond_true] at h
  exact tidy_none (meet_wf hp hq) (meet_chk p q) h hx h2
theorem meetB_some {p q c : Bd} (hp : wfB p) (hq : wfB q) (cp : chkT p) (cq : chkT q) (h : meetB p q = some c) {x : Int} (hx : wfI .u64 x) : inP c x ↔ (inP p x ∧ inP q x) := by
  rw [meet_in hp hq cp cq hx]
  unfold meetB at h
  cases h1 : (meetT p.2.2.2.2.1 p.2.2.2.2.2 q.2.2.2.2.1 q.2.2.2.2.2).2 with
  | false => simp [h1] at h
  | true =>
    simp only [h1, cond_true] at h
    rw [(tidy_some (meet_wf hp hq) (meet_chk p q) h).2.2 hx]
    simp
theorem join_l {p q : Bd} {x : Int} (h : inP p x) : inP (joinB p q) x := by
  obtain ⟨⟨h1, h2⟩, ⟨h3, h4⟩, h5⟩ := h
  refine ⟨?_, ?_, ?_⟩
  · simp only [joinB, W.min, W.max]; split <;> split <;> omega
  · simp only [joinB, W.min, W.max]; split <;> split <;> omega
  · simp only [joinB, B64_U]; rw [U_inj, ← h5, B64_U]
    generalize B64 x = a; generalize B64 p.2.2.2.2.2 = m; generalize B64 q.2.2.2.2.2 = n; generalize B64 q.2.2.2.2.1 = v
    ext i hi
    simp only [BitVec.getElem_xor, BitVec.getElem_or, BitVec.getElem_and, BitVec.getElem_not]
    cases a[i] <;> cases m[i] <;> cases n[i] <;> cases v[i] <;> rfl
theorem join_r {p q : Bd} {x : Int} (h : inP q x) : inP (joinB p q) x := by
  obtain ⟨⟨h1, h2⟩, ⟨h3, h4⟩, h5⟩ := h
  refine ⟨?_, ?_, ?_⟩
  · simp only [joinB, W.min, W.max]; split <;> split <;> omega
  · simp only [joinB, W.min, W.max]; split <;> split <;> omega
  · simp only [joinB, B64_U]; rw [U_inj, ← h5, B64_U]
    generalize B64 x = a; generalize B64 p.2.2.2.2.2 = m; generalize B64 q.2.2.2.2.2 = n; generalize B64 p.2.2.2.2.1 = v
    ext i hi
    simp only [BitVec.getElem_xor, BitVec.getElem_or, BitVec.getElem_and, BitVec.getElem_not]
    cases a[i] <;> cases m[i] <;> cases n[i] <;> cases v[i] <;> rfl
theorem join_wl {p q : Bd} (hp : chkP p) (hq : chkP q) : withinP (joinB p q) p := by
  obtain ⟨h1, h2, h3⟩ := hp
  obtain ⟨g1, g2, g3⟩ := hq
  refine ⟨?_, ?_, ?_, ?_, ?_, ?_⟩
  · simp only [joinB, W.min, W.max]; split <;> split <;> omega
  · simp only [joinB, W.min, W.max]; split <;> split <;> omega
  · simp only [joinB, W.min, W.max]; split <;> split <;> omega
  · simp only [joinB, W.min, W.max]; split <;> split <;> omega
  · simp only [joinB, B64_U]; rw [U_inj]
    generalize B64 p.2.2.2.2.1 = a; generalize B64 p.2.2.2.2.2 = m; generalize B64 q.2.2.2.2.2 = n; generalize B64 q.2.2.2.2.1 = v
    ext i hi
    simp only [BitVec.getElem_xor, BitVec.getElem_or, BitVec.getElem_and, BitVec.getElem_not]
    cases a[i] <;> cases m[i] <;> cases n[i] <;> cases v[i] <;> rfl
  · simp only [joinB, B64_U]; rw [U_inj]
    generalize B64 p.2.2.2.2.1 = a; generalize B64 p.2.2.2.2.2 = m; generalize B64 q.2.2.2.2.2 = n; generalize B64 q.2.2.2.2.1 = v
    ext i hi
    simp only [BitVec.getElem_xor, BitVec.getElem_or, BitVec.getElem_and, BitVec.getElem_not]
    cases a[i] <;> cases m[i] <;> cases n[i] <;> cases v[i] <;> rfl
theorem join_wr {p q : Bd} (hp : chkP p) (hq : chkP q) : withinP (joinB p q) q := by
  obtain ⟨h1, h2, h3⟩ := hp
  obtain ⟨g1, g2, g3⟩ := hq
  refine ⟨?_, ?_, ?_, ?_, ?_, ?_⟩
  · simp only [joinB, W.min, W.max]; split <;> split <;> omega
  · simp only [joinB, W.min, W.max]; split <;> split <;> omega
  · simp only [joinB, W.min, W.max]; split <;> split <;> omega
  · simp only [joinB, W.min, W.max]; split <;> split <;> omega
  · simp only [joinB, B64_U]; rw [U_inj]
    generalize B64 p.2.2.2.2.1 = a; generalize B64 p.2.2.2.2.2 = m; generalize B64 q.2.2.2.2.2 = n; generalize B64 q.2.2.2.2.1 = v
    ext i hi
    simp only [BitVec.getElem_xor, BitVec.getElem_or, BitVec.getElem_and, BitVec.getElem_not]
    cases a[i] <;> cases m[i] <;> cases n[i] <;> cases v[i] <;> rfl
  · simp only [joinB, B64_U]; rw [U_inj]
    generalize B64 p.2.2.2.2.1 = a; generalize B64 p.2.2.2.2.2 = m; generalize B64 q.2.2.2.2.2 = n; generalize B64 q.2.2.2.2.1 = v
    ext i hi
    simp only [BitVec.getElem_xor, BitVec.getElem_or, BitVec.getElem_and, BitVec.getElem_not]
    cases a[i] <;> cases m[i] <;> cases n[i] <;> cases v[i] <;> rfl
open Classical in
theorem meets_pure (x : PTs.D ps_clevislaw08BoundMeets) (hw : WfL ps_clevislaw08BoundMeets x) :
    L_clevislaw08BoundMeets F_bound_Check F_bound_In F_bound_Meet F_clevislaw08heads F_bound_Within F_bound_Join x = some () := by
  obtain ⟨⟨a, b, c, d, v, m⟩, ⟨a', b', c', d', v', m'⟩, y⟩ := x
  obtain ⟨hw1, hw2, hy⟩ := hw
  have hp : wfB (a, b, c, d, v, m) := hw1
  have hq : wfB (a', b', c', d', v', m') := hw2
  have hy2 : wfI .u64 y := hy
  simp only [L_clevislaw08BoundMeets, Check_eq, In_eq, heads_eq, BMeet_eq, Join_eq, Within_eq]
  have e1 : ∀ (z : Bd), (z.1, z.2.1, z.2.2.1, z.2.2.2.1, z.2.2.2.2.1, z.2.2.2.2.2) = z := fun z => rfl
  simp only [e1]
  generalize (a, b, c, d, v, m) = p at hp ⊢
  generalize (a', b', c', d', v', m') = q at hq ⊢
  by_cases hc : chkP p <;> by_cases hc' : chkP q
  · have k1 := @join_l p q y; have k2 := @join_r p q y; have k3 := join_wl hc hc'; have k4 := join_wr hc hc'
    cases h : meetB p q with
    | none =>
      have := meetB_none hp hq hc.2.2 hc'.2.2 h hy2
      by_cases hi : inP p y <;> by_cases hj : inP q y <;> simp_all [W.not, W.pick, W.and2, W.or2, br, opt]
    | some e =>
      have := meetB_some hp hq hc.2.2 hc'.2.2 h hy2
      by_cases hi : inP p y <;> by_cases hj : inP q y <;> simp_all [W.not, W.pick, W.and2, W.or2, br, opt]
  all_goals simp [hc, hc', W.not, W.pick, br]
theorem boundMeets_law (x : PTs.D ps_clevislaw08BoundMeets) (hw : WfL ps_clevislaw08BoundMeets x) :
    ∃ (C : Cfg) (fl d : Nat), CfgOk C ∧ C.P = Try.prog ∧ call C fl d 7 (encL false ps_clevislaw08BoundMeets x) [] getL = some () :=
  E_clevislaw08BoundMeets ok_bound_Check ok_bound_In ok_bound_Meet ok_clevislaw08heads ok_bound_Within ok_bound_Join x (meets_pure x hw)
end Go.Proofs.Ytflkcceicgaipaa
