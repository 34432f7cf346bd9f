import Derived.Test.YtjmddbakkghacaaLawsA
set_option linter.unusedVariables false
set_option linter.unusedSimpArgs false
set_option maxHeartbeats 4000000
set_option maxRecDepth 100000
namespace Go.Proofs.Ytjmddbakkghacaa
open Go Go.Eng
open Classical
/-! ### nothing gets wider, no way is left out -/
noncomputable def nar (v a : Bd) : Prop := wfB v ∧ chkT v ∧ ∀ x : Int, p64 x → inP v x → inP a x
theorem nar_self {a : Bd} (h : wfB a) (c : chkT a) : nar a a := ⟨h, c, fun _ _ h => h⟩
theorem wf_wu (z : Int) : wfI .u64 (W.wrap .u64 z) := by rw [W.wrap_u64]; exact wf_U _
theorem wf_wi (z : Int) : wfI .i64 (W.wrap .i64 z) := by rw [W.wrap_i64]; exact wf_I _
theorem wf_ite {k : IntKind} {p : Prop} [i : Decidable p] {x y : Int} (h1 : wfI k x) (h2 : wfI k y) : wfI k (if p then x else y) := by split <;> assumption
theorem IB_lo (x : Int) : -9223372036854775808 ≤ I (B64 x) ∧ I (B64 x) < 9223372036854775808 := I_lo _
theorem apart_nar {a : Bd} {y : Int} (h : wfB a) (c : chkT a) : nar (apartB a y) a := by
  obtain ⟨(a1 : Int), (a2 : Int), (a3 : Int), (a4 : Int), (a5 : Int), (a6 : Int)⟩ := a
  obtain ⟨w1, w2, w3, w4, w5, w6⟩ := h
  refine ⟨⟨wf_ite (wf_wu _) w1, wf_ite (wf_wu _) w2, wf_ite (wf_wi _) w3, wf_ite (wf_wi _) w4, w5, w6⟩, c, ?_⟩
  rintro x hx ⟨⟨h1, h2⟩, ⟨h3, h4⟩, h5⟩
  have u1 : p64 a1 := u64_lo w1
  have u2 : p64 a2 := u64_lo w2
  unfold p64 at u1 u2
  have s1 := IB_lo y
  simp only [apartB] at h1 h2 h3 h4
  refine ⟨⟨?_, ?_⟩, ⟨?_, ?_⟩, h5⟩
  · show a1 ≤ x
    by_cases q : a1 = y ∧ y < 18446744073709551615
    · rw [if_pos q, W.add_eq, W.wu64_id (by omega) (by omega)] at h1; omega
    · rw [if_neg q] at h1; exact h1
  · show x ≤ a2
    by_cases q : a2 = y ∧ 0 < y
    · rw [if_pos q, W.sub_eq, W.wu64_id (by omega) (by omega)] at h2; omega
    · rw [if_neg q] at h2; exact h2
  · show a3 ≤ I (B64 x)
    rw [W.wrap_i64] at h3
    by_cases q : a3 = I (B64 y) ∧ I (B64 y) < 9223372036854775807
    · rw [if_pos q, W.add_eq, W.wi64_id (by omega) (by omega)] at h3; omega
    · rw [if_neg q] at h3; exact h3
  · show I (B64 x) ≤ a4
    rw [W.wrap_i64] at h4
    by_cases q : a4 = I (B64 y) ∧ -9223372036854775808 < I (B64 y)
    · rw [if_pos q, W.sub_eq, W.wi64_id (by omega) (by omega)] at h4; omega
    · rw [if_neg q] at h4; exact h4
theorem p64_inj {x y : Int} (hx : p64 x) (hy : p64 y) (h : I (B64 x) = I (B64 y)) : x = y := by
  have := I_inj.1 h
  rw [← U_B64 (wfI_p hx), ← U_B64 (wfI_p hy), this]
theorem apart_in {a : Bd} {x y : Int} (h : wfB a) (hx : p64 x) (hy : p64 y) (hn : x ≠ y) (hi : inP a x) : inP (apartB a y) x := by
  obtain ⟨(a1 : Int), (a2 : Int), (a3 : Int), (a4 : Int), (a5 : Int), (a6 : Int)⟩ := a
  obtain ⟨⟨h1, h2⟩, ⟨h3, h4⟩, h5⟩ := hi
  have hs : I (B64 x) ≠ I (B64 y) := fun e => hn (p64_inj hx hy e)
  have s1 := IB_lo y
  have s2 := IB_lo x
  unfold p64 at hx hy
  simp only at h1 h2 h3 h4
  refine ⟨⟨?_, ?_⟩, ⟨?_, ?_⟩, h5⟩ <;> simp only [apartB]
  · by_cases q : a1 = y ∧ y < 18446744073709551615
    · rw [if_pos q, W.add_eq, W.wu64_id (by omega) (by omega)]; omega
    · rw [if_neg q]; exact h1
  · by_cases q : a2 = y ∧ 0 < y
    · rw [if_pos q, W.sub_eq, W.wu64_id (by omega) (by omega)]; omega
    · rw [if_neg q]; exact h2
  · rw [W.wrap_i64]
    by_cases q : a3 = I (B64 y) ∧ I (B64 y) < 9223372036854775807
    · rw [if_pos q, W.add_eq, W.wi64_id (by omega) (by omega)]; omega
    · rw [if_neg q]; exact h3
  · rw [W.wrap_i64]
    by_cases q : a4 = I (B64 y) ∧ -9223372036854775808 < I (B64 y)
    · rw [if_pos q, W.sub_eq, W.wi64_id (by omega) (by omega)]; omega
    · rw [if_neg q]; exact h4
theorem uLe_nar {x y v w : Bd} {s : Bool} (wx : wfB x) (wy : wfB y) (cx : chkT x) (cy : chkT y) (h : uLe x y s = some (v, w)) : nar v x ∧ nar w y := by
  obtain ⟨(x1 : Int), (x2 : Int), (x3 : Int), (x4 : Int), (x5 : Int), (x6 : Int)⟩ := x
  obtain ⟨(y1 : Int), (y2 : Int), (y3 : Int), (y4 : Int), (y5 : Int), (y6 : Int)⟩ := y
  obtain ⟨u1, u2, u3, u4, u5, u6⟩ := wx
  obtain ⟨t1, t2, t3, t4, t5, t6⟩ := wy
  unfold uLe at h
  cases s with
  | true =>
    rw [if_pos rfl] at h
    by_cases q : y2 = 0 ∨ x1 = 18446744073709551615
    · rw [if_pos q] at h; cases h
    · rw [if_neg q] at h; cases h
      exact ⟨⟨⟨u1, wf_min u2 (wf_wu _), u3, u4, u5, u6⟩, cx, fun p hp hi => ⟨⟨hi.1.1, (W.le_min.1 hi.1.2).1⟩, hi.2⟩⟩,
        ⟨⟨wf_max t1 (wf_wu _), t2, t3, t4, t5, t6⟩, cy, fun p hp hi => ⟨⟨(W.max_le.1 hi.1.1).1, hi.1.2⟩, hi.2⟩⟩⟩
  | false =>
    rw [if_neg (by simp)] at h; cases h
    exact ⟨⟨⟨u1, wf_min u2 t2, u3, u4, u5, u6⟩, cx, fun p hp hi => ⟨⟨hi.1.1, (W.le_min.1 hi.1.2).1⟩, hi.2⟩⟩,
      ⟨⟨wf_max t1 u1, t2, t3, t4, t5, t6⟩, cy, fun p hp hi => ⟨⟨(W.max_le.1 hi.1.1).1, hi.1.2⟩, hi.2⟩⟩⟩
theorem sLe_nar {x y v w : Bd} {s : Bool} (wx : wfB x) (wy : wfB y) (cx : chkT x) (cy : chkT y) (h : sLe x y s = some (v, w)) : nar v x ∧ nar w y := by
  obtain ⟨(x1 : Int), (x2 : Int), (x3 : Int), (x4 : Int), (x5 : Int), (x6 : Int)⟩ := x
  obtain ⟨(y1 : Int), (y2 : Int), (y3 : Int), (y4 : Int), (y5 : Int), (y6 : Int)⟩ := y
  obtain ⟨u1, u2, u3, u4, u5, u6⟩ := wx
  obtain ⟨t1, t2, t3, t4, t5, t6⟩ := wy
  unfold sLe at h
  cases s with
  | true =>
    rw [if_pos rfl] at h
    by_cases q : y4 = -9223372036854775808 ∨ x3 = 9223372036854775807
    · rw [if_pos q] at h; cases h
    · rw [if_neg q] at h; cases h
      exact ⟨⟨⟨u1, u2, u3, wf_min u4 (wf_wi _), u5, u6⟩, cx, fun p hp hi => ⟨hi.1, ⟨hi.2.1.1, (W.le_min.1 hi.2.1.2).1⟩, hi.2.2⟩⟩,
        ⟨⟨t1, t2, wf_max t3 (wf_wi _), t4, t5, t6⟩, cy, fun p hp hi => ⟨hi.1, ⟨(W.max_le.1 hi.2.1.1).1, hi.2.1.2⟩, hi.2.2⟩⟩⟩
  | false =>
    rw [if_neg (by simp)] at h; cases h
    exact ⟨⟨⟨u1, u2, u3, wf_min u4 t4, u5, u6⟩, cx, fun p hp hi => ⟨hi.1, ⟨hi.2.1.1, (W.le_min.1 hi.2.1.2).1⟩, hi.2.2⟩⟩,
      ⟨⟨t1, t2, wf_max t3 u3, t4, t5, t6⟩, cy, fun p hp hi => ⟨hi.1, ⟨(W.max_le.1 hi.2.1.1).1, hi.2.1.2⟩, hi.2.2⟩⟩⟩
theorem uLe_in {x y : Bd} {s : Bool} {p q : Int} (hp : p64 p) (hq : p64 q) (wx : wfB x) (wy : wfB y) (hr : if s = true then p < q else p ≤ q) (ix : inP x p) (iy : inP y q) : ∃ v w, uLe x y s = some (v, w) ∧ inP v p ∧ inP w q := by
  obtain ⟨(x1 : Int), (x2 : Int), (x3 : Int), (x4 : Int), (x5 : Int), (x6 : Int)⟩ := x
  obtain ⟨(y1 : Int), (y2 : Int), (y3 : Int), (y4 : Int), (y5 : Int), (y6 : Int)⟩ := y
  obtain ⟨⟨h1, h2⟩, h3⟩ := ix
  obtain ⟨⟨g1, g2⟩, g3⟩ := iy
  have ux : p64 x1 := u64_lo wx.1
  have uy : p64 y2 := u64_lo wy.2.1
  simp only at h1 h2 g1 g2
  unfold p64 at hp hq ux uy
  unfold uLe
  cases s with
  | true =>
    rw [if_pos rfl] at hr ⊢
    rw [if_neg (show ¬ (y2 = 0 ∨ x1 = 18446744073709551615) by omega)]
    refine ⟨_, _, rfl, ⟨⟨h1, W.le_min.2 ⟨h2, ?_⟩⟩, h3⟩, ⟨⟨W.max_le.2 ⟨g1, ?_⟩, g2⟩, g3⟩⟩
    · show p ≤ W.wrap .u64 (W.sub y2 1); rw [W.sub_eq, W.wu64_id (by omega) (by omega)]; omega
    · show W.wrap .u64 (W.add x1 1) ≤ q; rw [W.add_eq, W.wu64_id (by omega) (by omega)]; omega
  | false =>
    rw [if_neg (by simp)] at hr ⊢
    exact ⟨_, _, rfl, ⟨⟨h1, W.le_min.2 ⟨h2, show p ≤ y2 by omega⟩⟩, h3⟩, ⟨⟨W.max_le.2 ⟨g1, show x1 ≤ q by omega⟩, g2⟩, g3⟩⟩
theorem sLe_in {x y : Bd} {s : Bool} {p q : Int} (wx : wfB x) (wy : wfB y) (hr : if s = true then I (B64 p) < I (B64 q) else I (B64 p) ≤ I (B64 q)) (ix : inP x p) (iy : inP y q) : ∃ v w, sLe x y s = some (v, w) ∧ inP v p ∧ inP w q := by
  obtain ⟨(x1 : Int), (x2 : Int), (x3 : Int), (x4 : Int), (x5 : Int), (x6 : Int)⟩ := x
  obtain ⟨(y1 : Int), (y2 : Int), (y3 : Int), (y4 : Int), (y5 : Int), (y6 : Int)⟩ := y
  obtain ⟨k1, ⟨h1, h2⟩, h3⟩ := ix
  obtain ⟨k2, ⟨g1, g2⟩, g3⟩ := iy
  have sp := IB_lo p
  have sq := IB_lo q
  have ux := i64_lo wx.2.2.1
  have uy := i64_lo wy.2.2.2.1
  simp only at h1 h2 g1 g2 ux uy
  unfold sLe
  cases s with
  | true =>
    rw [if_pos rfl] at hr ⊢
    rw [if_neg (show ¬ (y4 = -9223372036854775808 ∨ x3 = 9223372036854775807) by omega)]
    refine ⟨_, _, rfl, ⟨k1, ⟨h1, W.le_min.2 ⟨h2, ?_⟩⟩, h3⟩, ⟨k2, ⟨W.max_le.2 ⟨g1, ?_⟩, g2⟩, g3⟩⟩
    · show I (B64 p) ≤ W.wrap .i64 (W.sub y4 1); rw [W.sub_eq, W.wi64_id (by omega) (by omega)]; omega
    · show W.wrap .i64 (W.add x3 1) ≤ I (B64 q); rw [W.add_eq, W.wi64_id (by omega) (by omega)]; omega
  | false =>
    rw [if_neg (by simp)] at hr ⊢
    exact ⟨_, _, rfl, ⟨k1, ⟨h1, W.le_min.2 ⟨h2, show I (B64 p) ≤ y4 by omega⟩⟩, h3⟩, ⟨k2, ⟨W.max_le.2 ⟨g1, show x3 ≤ I (B64 q) by omega⟩, g2⟩, g3⟩⟩
theorem swp_some {o : Option (Bd × Bd)} {v w : Bd} (h : swp o = some (v, w)) : o = some (w, v) := by
  cases o with
  | none => cases h
  | some p => cases h; rfl
theorem meet_nar {a b m : Bd} (wa : wfB a) (wb : wfB b) (ca : chkT a) (cb : chkT b) (h : meetB a b = some m) : nar m a ∧ nar m b := by
  have hs := fun x (hx : p64 x) => meetB_some wa wb ca cb h (wfI_p hx)
  have hw : wfB m ∧ chkT m := by
    unfold meetB at h
    cases h1 : (meetT a.2.2.2.2.1 a.2.2.2.2.2 b.2.2.2.2.1 b.2.2.2.2.2).2 with
    | false => simp [h1] at h
    | true =>
      simp only [h1, cond_true] at h
      obtain ⟨q1, q2, _⟩ := tidy_some (meet_wf wa wb) (meet_chk a b) h
      exact ⟨q1, q2.2.2⟩
  exact ⟨⟨hw.1, hw.2, fun x hx hi => ((hs x hx).1 hi).1⟩, ⟨hw.1, hw.2, fun x hx hi => ((hs x hx).1 hi).2⟩⟩
theorem truth_nar {op : Int} (ho : tenP op) {a b v w : Bd} (wa : wfB a) (wb : wfB b) (ca : chkT a) (cb : chkT b) (h : truthB op a b = some (v, w)) : nar v a ∧ nar w b := by
  unfold tenP at ho
  rcases ho with e | e | e | e | e | e | e | e | e | e <;> subst e <;> simp [truthB] at h
  · cases hm : meetB a b with
    | none => rw [hm] at h; simp at h
    | some m =>
      rw [hm] at h
      simp at h
      obtain ⟨rfl, rfl⟩ := h
      exact meet_nar wa wb ca cb hm
  · obtain ⟨rfl, rfl⟩ := h
    refine ⟨?_, ?_⟩
    · split
      · exact apart_nar wa ca
      · exact nar_self wa ca
    · split
      · exact apart_nar wb cb
      · exact nar_self wb cb
  · exact (uLe_nar wb wa cb ca (swp_some h)).symm
  · exact (sLe_nar wb wa cb ca (swp_some h)).symm
  · exact (uLe_nar wb wa cb ca (swp_some h)).symm
  · exact (sLe_nar wb wa cb ca (swp_some h)).symm
  · exact uLe_nar wa wb ca cb h
  · exact sLe_nar wa wb ca cb h
  · exact uLe_nar wa wb ca cb h
  · exact sLe_nar wa wb ca cb h
noncomputable def rel (op x y : Int) : Prop :=
  if op = 16 then x = y else if op = 80 then x ≠ y else if op = 32 then y < x else if op = 48 then y ≤ x else if op = 160 then x < y else if op = 176 then x ≤ y
  else if op = 96 then I (B64 y) < I (B64 x) else if op = 112 then I (B64 y) ≤ I (B64 x) else if op = 192 then I (B64 x) < I (B64 y) else I (B64 x) ≤ I (B64 y)
theorem known_is {a : Bd} {x : Int} (h : a.1 = a.2.1) (hi : inP a x) : x = a.1 := by
  have := hi.1; omega
theorem truth_in {op x y : Int} (ho : tenP op) {a b : Bd} (hx : p64 x) (hy : p64 y) (wa : wfB a) (wb : wfB b) (ca : chkT a) (cb : chkT b) (hr : rel op x y) (ia : inP a x) (ib : inP b y) : ∃ v w, truthB op a b = some (v, w) ∧ inP v x ∧ inP w y := by
  unfold tenP at ho
  rcases ho with e | e | e | e | e | e | e | e | e | e <;> subst e <;> simp [rel] at hr <;> simp only [truthB]
  · subst hr
    simp only [if_true]
    cases hm : meetB a b with
    | none => exact absurd ⟨ia, ib⟩ (meetB_none wa wb ca cb hm (wfI_p hx))
    | some m =>
      have := (meetB_some wa wb ca cb hm (wfI_p hx)).2 ⟨ia, ib⟩
      exact ⟨m, m, rfl, this, this⟩
  · rw [if_neg (by decide : ¬ (80 : Int) = 16), if_pos trivial]
    refine ⟨_, _, rfl, ?_, ?_⟩
    · split
      · rename_i h; rw [← known_is h ib]; exact apart_in wa hx hy hr ia
      · exact ia
    · split
      · rename_i h; rw [← known_is h ia]; exact apart_in wb hy hx (fun e => hr e.symm) ib
      · exact ib
  · obtain ⟨v, w, h1, h2, h3⟩ := uLe_in (s := true) hy hx wb wa (by simpa using hr) ib ia
    exact ⟨w, v, by simp [h1, swp], h3, h2⟩
  · obtain ⟨v, w, h1, h2, h3⟩ := sLe_in (s := true) wb wa (by simpa using hr) ib ia
    exact ⟨w, v, by simp [h1, swp], h3, h2⟩
  · obtain ⟨v, w, h1, h2, h3⟩ := uLe_in (s := false) hy hx wb wa (by simpa using hr) ib ia
    exact ⟨w, v, by simp [h1, swp], h3, h2⟩
  · obtain ⟨v, w, h1, h2, h3⟩ := sLe_in (s := false) wb wa (by simpa using hr) ib ia
    exact ⟨w, v, by simp [h1, swp], h3, h2⟩
  · obtain ⟨v, w, h1, h2, h3⟩ := uLe_in (s := true) hx hy wa wb (by simpa using hr) ia ib
    exact ⟨v, w, by simp [h1], h2, h3⟩
  · obtain ⟨v, w, h1, h2, h3⟩ := sLe_in (s := true) wa wb (by simpa using hr) ia ib
    exact ⟨v, w, by simp [h1], h2, h3⟩
  · obtain ⟨v, w, h1, h2, h3⟩ := uLe_in (s := false) hx hy wa wb (by simpa using hr) ia ib
    exact ⟨v, w, by simp [h1], h2, h3⟩
  · obtain ⟨v, w, h1, h2, h3⟩ := sLe_in (s := false) wa wb (by simpa using hr) ia ib
    exact ⟨v, w, by simp [h1], h2, h3⟩

/-! ### a bit that is asked for -/
theorem one_bit {x y : BitVec 64} (h0 : y ≠ 0#64) (h : y &&& (y - 1#64) = 0#64) (hx : x &&& y ≠ 0#64) : x &&& y = y := by
  have hy : y.toNat ≠ 0 := fun e => h0 (BitVec.eq_of_toNat_eq (by simpa using e))
  have h1 : (y - 1#64).toNat = y.toNat - 1 := by
    have := y.isLt
    rw [BitVec.toNat_sub]; simp; omega
  have h2 : y.toNat &&& (y.toNat - 1) = 0 := by
    have := congrArg BitVec.toNat h
    rw [BitVec.toNat_and, h1] at this
    simpa using this
  obtain ⟨k, hk⟩ := (Nat.and_sub_one_eq_zero_iff_isPowerOfTwo hy).1 h2
  apply BitVec.eq_of_toNat_eq
  rw [BitVec.toNat_and, hk]
  have h3 : x.toNat &&& 2 ^ k ≠ 0 := by
    intro e
    apply hx
    apply BitVec.eq_of_toNat_eq
    rw [BitVec.toNat_and, hk, e]; rfl
  cases hb : x.toNat.testBit k with
  | false =>
    exfalso; apply h3; apply Nat.eq_of_testBit_eq; intro i
    rw [Nat.testBit_and, Nat.testBit_two_pow, Nat.zero_testBit]
    by_cases e : k = i
    · subst e; simp [hb]
    · simp [e]
  | true =>
    apply Nat.eq_of_testBit_eq; intro i
    rw [Nat.testBit_and, Nat.testBit_two_pow]
    by_cases e : k = i
    · subst e; simp [hb]
    · simp [e]
theorem setB_nar {a b v w : Bd} {h : Bool} (wa : wfB a) (wb : wfB b) (ca : chkT a) (cb : chkT b) (hs : setB a b h = some (v, w)) : nar v a ∧ nar w b := by
  have h2 := set_snd hs
  simp only at h2
  subst h2
  refine ⟨?_, nar_self wb cb⟩
  unfold setB at hs
  by_cases h1 : w.1 ≠ w.2.1
  · rw [if_pos h1] at hs; cases hs; exact nar_self wa ca
  rw [if_neg h1] at hs
  by_cases h2 : h = true ∧ (w.1 = 0 ∨ W.wrap .u64 (W.and .u64 w.1 (W.wrap .u64 (W.sub w.1 1))) ≠ 0)
  · rw [if_pos h2] at hs; cases hs; exact nar_self wa ca
  rw [if_neg h2] at hs
  by_cases h3 : (meetT a.2.2.2.2.1 a.2.2.2.2.2 (if h = true then w.1 else 0) (U (~~~(B64 w.1)))).2 = true
  rotate_left
  · rw [if_neg h3] at hs; cases hs
  rw [if_pos h3] at hs
  cases hs
  -- the bits' side
  obtain ⟨u1, u2, u3, u4, u5, u6⟩ := wa
  obtain ⟨z, hz⟩ : ∃ z : Int, z = (if h = true then w.1 else 0) := ⟨_, rfl⟩
  rw [← hz] at h3 ⊢
  have hc : B64 z &&& B64 (U (~~~(B64 w.1))) = 0#64 := by
    rw [B64_U, hz]
    cases h
    · simp only [Bool.false_eq_true, if_false]; rw [B64_0]; simp
    · simp
  refine ⟨⟨u1, u2, u3, u4, wf_U _, wf_U _⟩, ?_, ?_⟩
  · simp only [chkT, meetT, B64_U]; rw [BitVec.and_assoc, BitVec.and_self]
  · rintro x hx ⟨i1, i2, i3⟩
    refine ⟨i1, i2, ?_⟩
    have hm := @meet_bits (B64 x) (B64 a.2.2.2.2.1) (B64 a.2.2.2.2.2) (B64 z) (B64 (U (~~~(B64 w.1)))) (chk_zero ca) hc
    simp only [meetT, B64_U, U_inj, decide_eq_true_iff] at h3 i3 hm ⊢
    have := (hm.2 ⟨h3, i3⟩).1
    rw [this, U_B64 u5]
theorem setB_in {a b : Bd} {h : Bool} {x y : Int} (hx : p64 x) (hy : p64 y) (wa : wfB a) (wb : wfB b) (ca : chkT a) (ia : inP a x) (ib : inP b y) (hr : h = true ↔ B64 x &&& B64 y ≠ 0#64) : ∃ v w, setB a b h = some (v, w) ∧ inP v x ∧ inP w y := by
  unfold setB
  by_cases h1 : b.1 ≠ b.2.1
  · rw [if_pos h1]; exact ⟨a, b, rfl, ia, ib⟩
  rw [if_neg h1]
  have hyb : y = b.1 := known_is (by simpa using h1) ib
  rw [← hyb]
  by_cases h2 : h = true ∧ (y = 0 ∨ W.wrap .u64 (W.and .u64 y (W.wrap .u64 (W.sub y 1))) ≠ 0)
  · rw [if_pos h2]; exact ⟨a, b, rfl, ia, ib⟩
  rw [if_neg h2]
  obtain ⟨u1, u2, u3, u4, u5, u6⟩ := wa
  obtain ⟨i1, i2, i3⟩ := ia
  obtain ⟨z, hz⟩ : ∃ z : Int, z = (if h = true then y else 0) := ⟨_, rfl⟩
  rw [← hz]
  have hc : B64 z &&& B64 (U (~~~(B64 y))) = 0#64 := by
    rw [B64_U, hz]
    cases h
    · simp only [Bool.false_eq_true, if_false]; rw [B64_0]; simp
    · simp
  have hxz : B64 x &&& ~~~(B64 (U (~~~(B64 y)))) = B64 z := by
    rw [B64_U, BitVec.not_not, hz]
    cases h with
    | false =>
      have : B64 x &&& B64 y = 0#64 := by
        false_or_by_contra
        rename_i hc
        have := hr.2 hc
        cases this
      simp only [Bool.false_eq_true, if_false, B64_0]; exact this
    | true =>
      simp only [if_true]
      have h3 : ¬ (y = 0 ∨ W.wrap .u64 (W.and .u64 y (W.wrap .u64 (W.sub y 1))) ≠ 0) := fun h => h2 ⟨rfl, h⟩
      simp only [not_or, ne_eq, Classical.not_not] at h3
      refine one_bit (fun e => h3.1 ?_) ?_ (hr.1 rfl)
      · have := congrArg U e
        rw [U_B64 (wfI_p hy)] at this
        rw [this]; decide
      · have := h3.2
        rw [W.and_u64, W.wrap_u64, B64_U, W.wrap_u64, B64_U, W.B64_sub] at this
        have h4 : U (B64 y &&& (B64 y - B64 1)) = U 0#64 := this
        have h5 := U_inj.1 h4
        exact h5
  have hm := @meet_bits (B64 x) (B64 a.2.2.2.2.1) (B64 a.2.2.2.2.2) (B64 z) (B64 (U (~~~(B64 y)))) (chk_zero ca) hc
  have hxa : B64 x &&& ~~~(B64 a.2.2.2.2.2) = B64 a.2.2.2.2.1 := by rw [← i3, B64_U]
  obtain ⟨m1, m2⟩ := hm.1 ⟨hxa, hxz⟩
  have hk : (meetT a.2.2.2.2.1 a.2.2.2.2.2 z (U (~~~(B64 y)))).2 = true := by
    simp only [meetT, B64_U, decide_eq_true_iff]
    rw [B64_U] at m1; exact m1
  rw [if_pos hk]
  refine ⟨_, _, rfl, ⟨i1, i2, ?_⟩, ib⟩
  simp only [meetT, B64_U, U_inj]
  rw [B64_U] at m2; exact m2
theorem low_id {x : Int} {w : Bool} (hx : p64 x) (h : w = true ∨ x ≤ 4294967295) : Eng.low x w = x := by
  unfold p64 at hx
  cases w with
  | true => simp [Eng.low]
  | false => simp [Eng.low]; simp at h; omega
theorem sgn_id {x : Int} {w : Bool} (hx : p64 x) (h : w = true ∨ x ≤ 2147483647) : sgn x w = I (B64 x) := by
  unfold p64 at hx
  cases w with
  | true => simp [sgn, W.wrap_i64]
  | false =>
    simp at h
    have h1 := I_eq (B64 x)
    rw [U_B64 (wfI_p hx), if_pos (by omega)] at h1
    rw [h1]
    simp only [sgn, Bool.false_eq_true, if_false, W.wu32, W.wi32, W.wi64]
    rw [if_pos (by omega), if_pos (by omega)]; omega
theorem most_le {op x : Int} (h : x ≤ mostO op) : x ≤ 4294967295 := by
  unfold mostO at h; split at h <;> omega
theorem most_s {op x : Int} (hs : sgdP op) (h : x ≤ mostO op) : x ≤ 2147483647 := by
  unfold mostO at h; rw [if_pos hs] at h; exact h
theorem cnd_rel {op x y : Int} {w : Bool} (ho : tenP op) (hx : p64 x) (hy : p64 y) (h : w = true ∨ (x ≤ mostO op ∧ y ≤ mostO op)) : (cnd op x y w).1 = true ↔ rel op x y := by
  have l1 : Eng.low x w = x := low_id hx (by rcases h with h | h; exact .inl h; exact .inr (most_le h.1))
  have l2 : Eng.low y w = y := low_id hy (by rcases h with h | h; exact .inl h; exact .inr (most_le h.2))
  have s1 : sgdP op → sgn x w = I (B64 x) := fun hs => sgn_id hx (by rcases h with h | h; exact .inl h; exact .inr (most_s hs h.1))
  have s2 : sgdP op → sgn y w = I (B64 y) := fun hs => sgn_id hy (by rcases h with h | h; exact .inl h; exact .inr (most_s hs h.2))
  clear h
  unfold tenP at ho
  rcases ho with e | e | e | e | e | e | e | e | e | e <;> subst e <;> simp [sgdP] at s1 s2 <;> simp [cnd, ord, rel, l1, l2, cmp_lt, cmp_le, cmp_gt, cmp_ge, cmp_eq, cmp_ne] <;> (try simp [s1, s2])
theorem cnd_set {x y : Int} {w : Bool} (hx : p64 x) (hy : p64 y) (h : w = true ∨ (x ≤ mostO 64 ∧ y ≤ mostO 64)) : (cnd 64 x y w).1 = true ↔ B64 x &&& B64 y ≠ 0#64 := by
  have l1 : Eng.low x w = x := low_id hx (by rcases h with h | h; exact .inl h; exact .inr (most_le h.1))
  have l2 : Eng.low y w = y := low_id hy (by rcases h with h | h; exact .inl h; exact .inr (most_le h.2))
  simp only [cnd, l1, l2]
  rw [if_neg (by decide : ¬ (64 : Int) = 16), if_neg (by decide : ¬ (64 : Int) = 80), if_pos trivial]
  simp only [W.and_u64, W.wrap_u64, B64_U, W.ne_t]
  have : (0 : Int) = U 0#64 := by decide
  rw [this, ne_eq, U_inj]
theorem rel_opp {op x y : Int} (ho : tenP op) (hn : ¬ rel op x y) : rel (oppO op) x y := by
  unfold tenP at ho
  rcases ho with e | e | e | e | e | e | e | e | e | e <;> subst e <;> simp [rel, oppO] at hn ⊢ <;> first | exact hn | omega
theorem ten_of {op : Int} (h : isOp op) (h' : op ≠ 64) : tenP op := by
  have := isOp_ten h h' true; simpa using this
theorem step_in {op x y : Int} {a b : Bd} {w : Bool} (ho : isOp op) (hx : p64 x) (hy : p64 y) (wa : wfB a) (wb : wfB b) (ca : chkT a) (cb : chkT b) (ia : inP a x) (ib : inP b y) (h : w = true ∨ (a.2.1 ≤ mostO op ∧ b.2.1 ≤ mostO op)) :
    ∃ v u, stepB op a b (cnd op x y w).1 = some (v, u) ∧ inP v x ∧ inP u y := by
  have h' : w = true ∨ (x ≤ mostO op ∧ y ≤ mostO op) := by
    rcases h with h | h
    · exact .inl h
    · have := ia.1; have := ib.1; exact .inr (by omega)
  unfold stepB
  by_cases h64 : op = 64
  · subst h64
    rw [if_pos rfl]
    exact setB_in hx hy wa wb ca ia ib (cnd_set hx hy h')
  · rw [if_neg h64]
    have ht := ten_of ho h64
    have hc := cnd_rel ht hx hy h'
    cases hb : (cnd op x y w).1 with
    | true => exact truth_in (by simpa using ht) hx hy wa wb ca cb (by simpa using hc.1 hb) ia ib
    | false =>
      have hn : ¬ rel op x y := fun h => by rw [hc.2 h] at hb; cases hb
      exact truth_in (by have := isOp_ten ho h64 false; simpa using this) hx hy wa wb ca cb (by simpa using rel_opp ht hn) ia ib
theorem step_nar {op : Int} {a b v w : Bd} {h : Bool} (ho : isOp op) (wa : wfB a) (wb : wfB b) (ca : chkT a) (cb : chkT b) (hs : stepB op a b h = some (v, w)) : nar v a ∧ nar w b := by
  unfold stepB at hs
  by_cases h64 : op = 64
  · rw [if_pos h64] at hs; exact setB_nar wa wb ca cb hs
  · rw [if_neg h64] at hs
    exact truth_nar (isOp_ten ho h64 h) wa wb ca cb hs
theorem refine_sound {op x y : Int} {a b : Bd} {w : Bool} (ho : isOp op) (hx : p64 x) (hy : p64 y) (wa : wfB a) (wb : wfB b) (ca : chkP a) (cb : chkP b) (ia : inP a x) (ib : inP b y) :
    ∃ v u, refineB op a b w (cnd op x y w).1 = (v, u, true) ∧ inP v x ∧ inP u y ∧ chkP v ∧ chkP u ∧ wfB v ∧ wfB u := by
  unfold refineB
  rw [if_pos ⟨ho, ca, cb⟩]
  unfold mainB
  by_cases h1 : a.1 = a.2.1 ∧ b.1 = b.2.1
  · rw [if_pos h1, known_is h1.1 ia, known_is h1.2 ib, if_pos rfl]
    rw [← known_is h1.1 ia, ← known_is h1.2 ib]
    exact ⟨a, b, rfl, ia, ib, ca, cb, wa, wb⟩
  rw [if_neg h1]
  by_cases h2 : w = false ∧ ¬ (a.2.1 ≤ mostO op ∧ b.2.1 ≤ mostO op)
  · rw [if_pos h2]; exact ⟨a, b, rfl, ia, ib, ca, cb, wa, wb⟩
  rw [if_neg h2]
  have h3 : w = true ∨ (a.2.1 ≤ mostO op ∧ b.2.1 ≤ mostO op) := by
    cases w with
    | true => exact .inl rfl
    | false => right; false_or_by_contra; exact h2 ⟨rfl, by assumption⟩
  obtain ⟨v, u, hs, iv, iu⟩ := step_in ho hx hy wa wb ca.2.2 cb.2.2 ia ib h3
  obtain ⟨⟨nv1, nv2, _⟩, ⟨nu1, nu2, _⟩⟩ := step_nar ho wa wb ca.2.2 cb.2.2 hs
  rw [hs, opt_some]
  unfold bothB
  cases hv : tidyB v with
  | none => exact absurd iv (tidy_none nv1 nv2 hv (wfI_p hx))
  | some c =>
    cases hu : tidyB u with
    | none => exact absurd iu (tidy_none nu1 nu2 hu (wfI_p hy))
    | some d =>
      obtain ⟨q1, q2, q3⟩ := tidy_some nv1 nv2 hv
      obtain ⟨r1, r2, r3⟩ := tidy_some nu1 nu2 hu
      exact ⟨c, d, rfl, (q3 (wfI_p hx)).2 iv, (r3 (wfI_p hy)).2 iu, q2, r2, q1, r1⟩
theorem refine_narrow {op : Int} {a b : Bd} {w h : Bool} (wa : wfB a) (wb : wfB b) (ca : chkP a) (cb : chkP b) :
    refineB op a b w h = (zB, zB, false) ∨ ∃ v u, refineB op a b w h = (v, u, true) ∧ (∀ x, p64 x → inP v x → inP a x) ∧ (∀ x, p64 x → inP u x → inP b x) := by
  have same : ∃ v u, (a, b, true) = ((v, u, true) : Bd × Bd × Bool) ∧ (∀ x, p64 x → inP v x → inP a x) ∧ (∀ x, p64 x → inP u x → inP b x) := ⟨a, b, rfl, fun _ _ h => h, fun _ _ h => h⟩
  unfold refineB
  by_cases ho : isOp op
  rotate_left
  · rw [if_neg (fun h => ho h.1)]; exact .inr same
  rw [if_pos ⟨ho, ca, cb⟩]
  unfold mainB
  by_cases h1 : a.1 = a.2.1 ∧ b.1 = b.2.1
  · rw [if_pos h1]
    by_cases hc : (cnd op a.1 b.1 w).1 = h
    · rw [if_pos hc]; exact .inr same
    · rw [if_neg hc]; exact .inl rfl
  rw [if_neg h1]
  by_cases h2 : w = false ∧ ¬ (a.2.1 ≤ mostO op ∧ b.2.1 ≤ mostO op)
  · rw [if_pos h2]; exact .inr same
  rw [if_neg h2]
  cases hs : stepB op a b h with
  | none => exact .inl rfl
  | some p =>
    obtain ⟨v, u⟩ := p
    obtain ⟨⟨nv1, nv2, nv3⟩, ⟨nu1, nu2, nu3⟩⟩ := step_nar ho wa wb ca.2.2 cb.2.2 hs
    rw [opt_some]
    unfold bothB
    cases hv : tidyB v with
    | none => exact .inl rfl
    | some c =>
      cases hu : tidyB u with
      | none => exact .inl rfl
      | some d =>
        obtain ⟨q1, q2, q3⟩ := tidy_some nv1 nv2 hv
        obtain ⟨r1, r2, r3⟩ := tidy_some nu1 nu2 hu
        exact .inr ⟨c, d, rfl, fun x hx hi => nv3 x hx ((q3 (wfI_p hx)).1 hi), fun x hx hi => nu3 x hx ((r3 (wfI_p hx)).1 hi)⟩
theorem BranchSound_pure (x : PTs.D ps_clevislaw10BranchSound) (hw : WfL ps_clevislaw10BranchSound x) (hz : SzL ps_clevislaw10BranchSound x) :
    L_clevislaw10BranchSound F_clevisref01Cond F_branch_Refine F_clevislaw10heads F_clevisref08Check F_clevisref08In x = some () := by
  obtain ⟨(op : Int), ⟨(a1 : Int), (a2 : Int), (a3 : Int), (a4 : Int), (a5 : Int), (a6 : Int)⟩, ⟨(b1 : Int), (b2 : Int), (b3 : Int), (b4 : Int), (b5 : Int), (b6 : Int)⟩, (x : Int), (y : Int), (wide : Bool)⟩ := x
  have wa : wfB (a1, a2, a3, a4, a5, a6) := hw.2.1
  have wb : wfB (b1, b2, b3, b4, b5, b6) := hw.2.2.1
  have px : p64 x := u64_lo hw.2.2.2.1
  have py : p64 y := u64_lo hw.2.2.2.2.1
  have c1 : rcnd op x y wide = cnd op x y wide := (cond_same px py).symm
  have c2 := rcond_eq (R := Unit) (op, x, y, wide) px py
  simp only at c2
  have sound := refine_sound (op := op) (x := x) (y := y) (a := (a1, a2, a3, a4, a5, a6)) (b := (b1, b2, b3, b4, b5, b6)) (w := wide)
  simp only [L_clevislaw10BranchSound, Refine_eq, heads10_eq, c2, c1, rCheck_eq (a1, a2, a3, a4, a5, a6) wa, rCheck_eq (b1, b2, b3, b4, b5, b6) wb, rIn_eq, eta6', cnd_is, W.not_eq, Bool.not_not, W.pick_ft]
  by_cases ho : isOp op
  rotate_left
  · rw [decide_eq_false ho, br_f, br_t]
  rw [decide_eq_true ho, br_t]
  by_cases ca : chkP (a1, a2, a3, a4, a5, a6)
  rotate_left
  · rw [decide_eq_false ca]; rfl
  rw [decide_eq_true ca]
  by_cases cb : chkP (b1, b2, b3, b4, b5, b6)
  rotate_left
  · rw [decide_eq_false cb]; rfl
  rw [decide_eq_true cb]
  by_cases ia : inP (a1, a2, a3, a4, a5, a6) x
  rotate_left
  · rw [decide_eq_false ia]; rfl
  rw [decide_eq_true ia]
  by_cases ib : inP (b1, b2, b3, b4, b5, b6) y
  rotate_left
  · rw [decide_eq_false ib]; rfl
  rw [decide_eq_true ib]
  obtain ⟨v, u, e, iv, iu, cv, cu, wv, wu⟩ := sound ho px py wa wb ca cb ia ib
  simp only [e, rCheck_eq v wv, rCheck_eq u wu, decide_eq_true iv, decide_eq_true iu, decide_eq_true cv, decide_eq_true cu, Bool.not_true, Bool.not_false, br_t, br_f, W.pick_tf]
theorem BranchSound_law (x : PTs.D ps_clevislaw10BranchSound) (hw : WfL ps_clevislaw10BranchSound x) (hz : SzL ps_clevislaw10BranchSound x) :
    ∃ (C : Cfg) (fl d : Nat), CfgOk C ∧ C.P = Try.prog ∧ call C fl d 5 (encL false ps_clevislaw10BranchSound x) [] getL = some () :=
  E_clevislaw10BranchSound ok_clevisref01Cond ok_branch_Refine ok_clevislaw10heads ok_clevisref08Check ok_clevisref08In x (BranchSound_pure x hw hz)
theorem BranchNarrow_pure (x : PTs.D ps_clevislaw10BranchNarrow) (hw : WfL ps_clevislaw10BranchNarrow x) (hz : SzL ps_clevislaw10BranchNarrow x) :
    L_clevislaw10BranchNarrow F_branch_Refine F_clevislaw10heads F_clevisref08Check F_clevisref08In x = some () := by
  obtain ⟨(op : Int), ⟨(a1 : Int), (a2 : Int), (a3 : Int), (a4 : Int), (a5 : Int), (a6 : Int)⟩, ⟨(b1 : Int), (b2 : Int), (b3 : Int), (b4 : Int), (b5 : Int), (b6 : Int)⟩, (x : Int), (wide : Bool), (holds : Bool)⟩ := x
  have wa : wfB (a1, a2, a3, a4, a5, a6) := hw.2.1
  have wb : wfB (b1, b2, b3, b4, b5, b6) := hw.2.2.1
  have px : p64 x := u64_lo hw.2.2.2.1
  have narrow := refine_narrow (op := op) (a := (a1, a2, a3, a4, a5, a6)) (b := (b1, b2, b3, b4, b5, b6)) (w := wide) (h := holds)
  simp only [L_clevislaw10BranchNarrow, Refine_eq, heads10_eq, rCheck_eq (a1, a2, a3, a4, a5, a6) wa, rCheck_eq (b1, b2, b3, b4, b5, b6) wb, rIn_eq, eta6', W.not_eq, Bool.not_not, W.pick_ft]
  by_cases ca : chkP (a1, a2, a3, a4, a5, a6)
  rotate_left
  · rw [decide_eq_false ca]; rfl
  rw [decide_eq_true ca]
  by_cases cb : chkP (b1, b2, b3, b4, b5, b6)
  rotate_left
  · rw [decide_eq_false cb]; rfl
  rw [decide_eq_true cb]
  rcases narrow wa wb ca cb with e | ⟨v, u, e, n1, n2⟩
  · rw [e]; rfl
  · rw [e]
    have n1 := n1 x px
    have n2 := n2 x px
    have q9 : ∀ c, W.and2 true c = c := fun _ => rfl
    by_cases i1 : inP v x <;> by_cases i2 : inP u x
    · simp only [decide_eq_true i1, decide_eq_true i2, decide_eq_true (n1 i1), decide_eq_true (n2 i2), Bool.not_true, Bool.not_false, br_t, br_f, W.pick_tf, W.pick_ft, q9]
    · simp only [decide_eq_true i1, decide_eq_false i2, decide_eq_true (n1 i1), Bool.not_true, Bool.not_false, br_t, br_f, W.pick_tf, W.pick_ft, q9]
    · simp only [decide_eq_false i1, decide_eq_true i2, decide_eq_true (n2 i2), Bool.not_true, Bool.not_false, br_t, br_f, W.pick_tf, W.pick_ft, q9]
    · simp only [decide_eq_false i1, decide_eq_false i2, Bool.not_true, Bool.not_false, br_t, br_f, W.pick_tf, W.pick_ft, q9]
theorem BranchNarrow_law (x : PTs.D ps_clevislaw10BranchNarrow) (hw : WfL ps_clevislaw10BranchNarrow x) (hz : SzL ps_clevislaw10BranchNarrow x) :
    ∃ (C : Cfg) (fl d : Nat), CfgOk C ∧ C.P = Try.prog ∧ call C fl d 6 (encL false ps_clevislaw10BranchNarrow x) [] getL = some () :=
  E_clevislaw10BranchNarrow ok_branch_Refine ok_clevislaw10heads ok_clevisref08Check ok_clevisref08In x (BranchNarrow_pure x hw hz)
end Go.Proofs.Ytjmddbakkghacaa
