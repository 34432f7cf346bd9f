/- The engine, part C: what each operation on whole values does, the model does too. -/
import Derived.Test.YtdfelkcioeinfaaDoorEnwB
import Derived.OpenShut
import Derived.Laws.Entries
import Derived.Laws.Rows
import Derived.Laws.Cells
import Derived.BigFrame
set_option linter.unusedVariables false
set_option linter.unusedSimpArgs false
namespace Go.Eng
open Go Go.RowKit

theorem wfI_iff {k : IntKind} {n : Int} : wfI k n ↔ k.min ≤ n ∧ n ≤ k.max := by simp [wfI, Lit.wf]
theorem wfI_wrap (k : IntKind) (n : Int) : wfI k (k.wrap n) := wf_wrap k n
theorem wfI_nat (n : Nat) (h : n ≤ maxLen) : wfI .i64 n := by
  rw [wfI_iff]; unfold maxLen at h
  simp only [IntKind.min, IntKind.max, IntKind.signed, IntKind.bits]; simp; omega
theorem wfI_nonneg {k : IntKind} {n : Int} (hk : k.signed = false) (h : wfI k n) : 0 ≤ n := by
  rw [wfI_iff] at h; simpa [IntKind.min, hk] using h.1
theorem IntKind.min_le0 (k : IntKind) : k.min ≤ 0 := by cases k <;> decide
theorem IntKind.max_ge0 (k : IntKind) : 0 ≤ k.max := by cases k <;> decide
theorem tmod_le_nat (n : Nat) (b : Int) : 0 ≤ (n : Int).tmod b ∧ (n : Int).tmod b ≤ n := by
  cases b with
  | ofNat m =>
    have : ((n : Int).tmod (Int.ofNat m)) = ((n % m : Nat) : Int) := rfl
    rw [this]
    have := Nat.mod_le n m
    omega
  | negSucc m =>
    have : ((n : Int).tmod (Int.negSucc m)) = ((n % (m + 1) : Nat) : Int) := rfl
    rw [this]
    have := Nat.mod_le n (m + 1)
    omega
theorem wfI_tmod {k : IntKind} {a b : Int} (ha : wfI k a) : wfI k (a.tmod b) := by
  rw [wfI_iff] at *
  have h0 := IntKind.min_le0 k
  have h1 := IntKind.max_ge0 k
  rcases Int.le_total 0 a with h | h
  · obtain ⟨n, rfl⟩ := Int.eq_ofNat_of_zero_le h
    have := tmod_le_nat n b
    omega
  · have e : a.tmod b = -((-a).tmod b) := by rw [Int.neg_tmod]; simp
    obtain ⟨n, hn⟩ := Int.eq_ofNat_of_zero_le (show 0 ≤ -a by omega)
    rw [e, hn]
    have := tmod_le_nat n b
    omega
theorem wfI_fdiv {k : IntKind} {a : Int} (n : Nat) (ha : wfI k a) : wfI k (a.fdiv (2 ^ n)) := by
  rw [wfI_iff] at *
  have h0 := IntKind.min_le0 k
  have h1 := IntKind.max_ge0 k
  have hp : (0 : Int) < 2 ^ n := Int.pow_pos (by omega)
  rw [Int.fdiv_eq_ediv_of_nonneg a (by omega)]
  constructor
  · apply Int.le_ediv_of_mul_le hp
    have : k.min * 2 ^ n ≤ k.min * 1 := Int.mul_le_mul_of_nonpos_left h0 (by omega)
    omega
  · rcases Int.le_total 0 a with h | h
    · exact Int.le_trans (Int.ediv_le_self _ h) ha.2
    · have : a / 2 ^ n ≤ 0 := by
        have := Int.ediv_le_ediv hp h
        simpa using this
      omega

section
variable {Φ : Fr} {w : World} {π : Pi} {P : Program}

theorem ofConst0_sound (v : Value) : VR Φ π (ofConst0 v) v := by
  unfold ofConst0
  split
  case h_2 => split <;> simp_all [VR, wfI]
  case h_3 => split <;> simp_all [VR, maxLen]; omega
  all_goals simp [VR]
theorem VRL.map_const0 : ∀ l : List Value, VRL Φ π (l.map ofConst0) l
  | [] => by simp [VRL]
  | v :: l => by simp only [List.map, VRL]; exact ⟨ofConst0_sound v, VRL.map_const0 l⟩
theorem ofConst_sound (v : Value) : VR Φ π (ofConst v) v := by
  unfold ofConst
  split
  · simp only [VR]; exact ⟨_, rfl, VRL.map_const0 _⟩
  · simp only [VR]; exact ⟨_, rfl, VRL.map_const0 _⟩
  · exact ofConst0_sound _

/-- An effect that yields a value alone: the model's run does so. -/
def Gives (P : Program) (Φ : Fr) (π : Pi) (x : Sem Value) (v : V) : Prop := ∀ w, ∃ c, x.run P w = .ok c w ∧ VR Φ π v c

theorem VR.int' {k : IntKind} {n : Int} (h : wfI k n) : VR Φ π (.int k n) (.int k n) := by simp [VR, h]
theorem VR.bool' {b : Bool} : VR Φ π (.bool b) (.bool b) := by simp [VR]

section
variable {slot : Nat} {h : List Blk} {v : V} {u : Upd}

theorem binInt_sound {op : BinOp} {k : IntKind} {a b : Int} (ha : wfI k a) (hb : wfI k b) (he : EffTo P slot h (binInt op k a b) v u) (t : TypeId) :
    u = .no ∧ Gives P Φ π (binOp op t (.int k a) (.int k b)) v := by
  cases op <;> simp only [binInt, EffTo] at he <;> (try exact he.elim)
  case quo =>
    rcases he with ⟨_, h⟩ | ⟨hz, rfl, rfl⟩
    · exact h.elim
    · refine ⟨rfl, fun w => ⟨_, ?_, VR.int' (wfI_wrap _ _)⟩⟩
      have : ¬ b = 0 := by simpa [W.eq] using hz
      simp [binOp, Op.intDiv, this, W.wrap, W.quo]
  case rem =>
    rcases he with ⟨_, h⟩ | ⟨hz, rfl, rfl⟩
    · exact h.elim
    · refine ⟨rfl, fun w => ⟨_, ?_, VR.int' (wfI_tmod ha)⟩⟩
      have : ¬ b = 0 := by simpa [W.eq] using hz
      simp [binOp, Op.intDiv, this, W.rem]
  case and => obtain ⟨rfl, rfl⟩ := he; exact ⟨rfl, fun w => ⟨_, by simp [binOp]; rfl, VR.int' (wfI_wrap _ _)⟩⟩
  case or => obtain ⟨rfl, rfl⟩ := he; exact ⟨rfl, fun w => ⟨_, by simp [binOp]; rfl, VR.int' (wfI_wrap _ _)⟩⟩
  case xor => obtain ⟨rfl, rfl⟩ := he; exact ⟨rfl, fun w => ⟨_, by simp [binOp]; rfl, VR.int' (wfI_wrap _ _)⟩⟩
  case andNot => obtain ⟨rfl, rfl⟩ := he; exact ⟨rfl, fun w => ⟨_, by simp [binOp]; rfl, VR.int' (wfI_wrap _ _)⟩⟩
  case add => obtain ⟨rfl, rfl⟩ := he; exact ⟨rfl, fun w => ⟨_, by simp [binOp, Op.intArith, W.wrap, W.add], VR.int' (wfI_wrap _ _)⟩⟩
  case sub => obtain ⟨rfl, rfl⟩ := he; exact ⟨rfl, fun w => ⟨_, by simp [binOp, Op.intArith, W.wrap, W.sub], VR.int' (wfI_wrap _ _)⟩⟩
  case mul => obtain ⟨rfl, rfl⟩ := he; exact ⟨rfl, fun w => ⟨_, by simp [binOp, Op.intArith, W.wrap, W.mul], VR.int' (wfI_wrap _ _)⟩⟩
  all_goals
    obtain ⟨rfl, rfl⟩ := he
    exact ⟨rfl, fun w => ⟨_, by simp [binOp, Op.intCmp, W.eq, W.ne, W.lt, W.le, W.gt, W.ge], VR.bool'⟩⟩

theorem shiftInt_sound {op : BinOp} {k yk : IntKind} {a b : Int} (ha : wfI k a) (hb : 0 ≤ b) (he : EffTo P slot h (shiftInt op k a b) v u) (t : TypeId) :
    u = .no ∧ Gives P Φ π (binOp op t (.int k a) (.int yk b)) v := by
  have hb' : ¬ b < 0 := by omega
  cases op <;> simp only [shiftInt, EffTo] at he <;> (try exact he.elim)
  case shl =>
    obtain ⟨rfl, rfl⟩ := he
    exact ⟨rfl, fun w => ⟨_, by simp [binOp, Op.shift, hb', W.wrap, W.shl], VR.int' (wfI_wrap _ _)⟩⟩
  case shr =>
    obtain ⟨rfl, rfl⟩ := he
    exact ⟨rfl, fun w => ⟨_, by simp [binOp, Op.shift, hb', W.shr], VR.int' (wfI_fdiv _ ha)⟩⟩

theorem un_sound {op : UnOp} {x : V} {c : Value} (hx : VR Φ π x c) (he : EffTo P slot h (unAct op x) v u) :
    u = .no ∧ Gives P Φ π (Op.unary op c) v := by
  unfold unAct at he
  split at he
  · simp only [VR] at hx; obtain ⟨rfl, hw⟩ := hx
    obtain ⟨rfl, rfl⟩ := he
    exact ⟨rfl, fun w => ⟨_, by simp [Op.unary, Op.intArith, W.wrap, W.sub], VR.int' (wfI_wrap _ _)⟩⟩
  · simp only [VR] at hx; obtain ⟨rfl, hw⟩ := hx
    obtain ⟨rfl, rfl⟩ := he
    exact ⟨rfl, fun w => ⟨_, by simp [Op.unary]; rfl, VR.int' (wfI_wrap _ _)⟩⟩
  · simp only [VR] at hx; subst hx
    obtain ⟨rfl, rfl⟩ := he
    exact ⟨rfl, fun w => ⟨_, by simp [Op.unary, W.not], VR.bool'⟩⟩
  · exact he.elim

end
end
end Go.Eng
