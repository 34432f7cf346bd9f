import Derived.Test.YtokedpogofnenaaLawE
set_option linter.unusedVariables false
set_option linter.unusedSimpArgs false
set_option maxHeartbeats 4000000
set_option maxRecDepth 100000
namespace Go.Proofs.Ytokedpogofnenaa
open Go Go.Eng
variable {R : Type}
theorem rAny_eq (k : PTs.D qs_clevisref08Any → Option R) : F_clevisref08Any R () k = k (szB 8) := by kernel_rfl
theorem rsize_eq (n : PTs.D ps_clevisref08Size) (k : PTs.D qs_clevisref08Size → Option R) : F_clevisref08Size R n k = k (szB n) := by
  revert n
  intro (n : Int)
  simp only [F_clevisref08Size, N_clevisref08Size, rAny_eq]
  by_cases h1 : n = 1
  · subst h1; kernel_rfl
  by_cases h2 : n = 2
  · subst h2; kernel_rfl
  by_cases h4 : n = 4
  · subst h4; kernel_rfl
  rw [br_neg (by simp [W.eq_d, h1]), br_neg (by simp [W.eq_d, h2]), br_neg (by simp [W.eq_d, h4])]
  simp only [szB, if_neg h1, if_neg h2, if_neg h4]
  rfl
open Classical in
theorem exB (l h n : Int) : (bif bif decide (l = h) then decide (n = 8) else false then decide (l.tmod 8 = 0) else false) = decide (exP l h n) := by
  refine dec_eq ?_
  by_cases e1 : l = h <;> by_cases e2 : n = 8 <;> simp [e1, e2, exP]
theorem or2_tr (b : Bool) : W.or2 b true = true := by simp [W.or2]
open Classical in
theorem rload_eq (x : PTs.D ps_clevisref11Load) (hw : wfS x.1) (k : PTs.D qs_clevisref11Load → Option R) : F_clevisref11Load R x k = k (loadS x.1 x.2.1 x.2.2.1 x.2.2.2) := by
  obtain ⟨⟨a, t, b⟩, (l : Int), (h : Int), (n : Int)⟩ := x
  simp only [F_clevisref11Load, N_clevisref11Load, rsize_eq]
  rw [rplaces_eq _ hw]
  simp only [W.not_eq, Bool.not_not, br_d, eta2, kn_get]
  by_cases hp : placesP (a, t, b) l h n
  · obtain ⟨hc, q1, q2, q3, q4⟩ := id hp
    have hlen : b.length = 64 := hc.2.2.1
    rw [if_pos hp, W.add_eq, W.wi64_id (by omega) (by omega), rready_eq _ hw]
    by_cases hr : readyP (a, t, b) l (h + n)
    · rw [quo8 (by omega) (by omega)]
      simp only [hr, decide_true, Bool.not_true, W.pick_eq, cond_false, br_f]
      simp only [inb0 (show 0 ≤ l / 8 by omega) (show l / 8 < (W.len b : Int) by rw [W.len_eq]; omega), or2_tr, br_t]
      simp only [W.ne_d, loadS, if_pos (And.intro hp hr), slot, W.toNat, W.eq_d, W.rem]
      rw [exB, show (bif decide (exP l h n) then decide ((kn b (l / 8).toNat).1 ≠ 0) else false) = decide (exP l h n ∧ (kn b (l / 8).toNat).1 ≠ 0) from dec_eq (by by_cases he : exP l h n <;> simp [he]), br_d]
      by_cases he : exP l h n ∧ (kn b (l / 8).toNat).1 ≠ 0
      · rw [if_pos he]; exact congrArg k (if_pos he).symm
      · rw [if_neg he]; exact congrArg k (if_neg he).symm
    · rw [br_pos (by simp [hr, W.pick_eq])]
      simp only [loadS, hr, and_false, if_false, z0]
  · rw [if_neg hp]
    simp only [loadS, hp, false_and, if_false, z0]
theorem rsmall (s : St) (hs : smallS s) {α : Type} (x : Option α) :
    br (W.leN (W.mulN (W.len s.1) 64) 140737488355328) (br (W.leN (W.mulN (W.len s.2.1) 1) 140737488355328) (br (W.leN (W.mulN (W.len s.2.2) 64) 140737488355328) x none) none) none = x := by
  obtain ⟨h1, h2, h3⟩ := hs
  have e : ∀ n, n ≤ 140737488351232 → W.leN n 140737488355328 = true := fun n h => by simp [W.leN]; omega
  simp only [W.mulN, W.len_eq]
  rw [e _ h1, e _ h2, e _ h3, br_t, br_t, br_t]
open Classical in
theorem rput_eq (x : PTs.D ps_clevisref11Put) (hw : wfS x.1) (hk : wfK x.2.2) (hs : smallS x.1) (k : PTs.D qs_clevisref11Put → Option R) : F_clevisref11Put R x k = k (putS x.1 x.2.1 x.2.2) := by
  obtain ⟨⟨a, t, b⟩, (r : Int), (y0 : Int), ⟨(y1 : Int), (y2 : Int), (y3 : Int), (y4 : Int), (y5 : Int), (y6 : Int)⟩, (y7 : Int)⟩ := x
  simp only [F_clevisref11Put, N_clevisref11Put]
  rw [rsmall (a, t, b) hs, rcheck_eq _ hw]
  simp only [W.pick_eq, cond_true, W.ge_d, W.lt_d]
  by_cases h3 : checkP (a, t, b)
  · by_cases h1 : 0 ≤ r ∧ r < 11
    · have hl : a.length = 11 := h3.1
      rw [br_pos (by simp [h3]; omega), rright_eq _ hk, br_d, ← W.lt_d, inb0 (by omega) (by rw [W.len_eq]; omega), br_t]
      by_cases h2 : rightP (y0, (y1, y2, y3, y4, y5, y6), y7)
      · rw [if_pos h2]; simp only [putS, if_pos (And.intro h1 (And.intro h2 h3))]; rfl
      · rw [if_neg h2]; simp only [putS, h2, false_and, and_false, if_false]
    · rw [br_neg (by simp [h3]; omega)]; simp only [putS, h1, false_and, if_false]
  · rw [br_neg (by simp [h3])]; simp only [putS, h3, and_false, if_false]
open Classical in
theorem rstore_eq (x : PTs.D ps_clevisref11Store) (hw : wfS x.1) (hk : wfK x.2.2.2.2) (hs : smallS x.1) (k : PTs.D qs_clevisref11Store → Option R) : F_clevisref11Store R x k = k (storeS x.1 x.2.1 x.2.2.1 x.2.2.2.1 x.2.2.2.2) := by
  obtain ⟨⟨a, t, b⟩, (l : Int), (h : Int), (n : Int), (y0 : Int), ⟨(y1 : Int), (y2 : Int), (y3 : Int), (y4 : Int), (y5 : Int), (y6 : Int)⟩, (y7 : Int)⟩ := x
  simp only [F_clevisref11Store, N_clevisref11Store]
  rw [rsmall (a, t, b) hs, rplaces_eq _ hw]
  simp only [W.not_eq, Bool.not_not, br_d, W.pick_eq, cond_false]
  by_cases hp : placesP (a, t, b) l h n
  · obtain ⟨hc, q1, q2, q3, q4⟩ := id hp
    have hlb : b.length = 64 := hc.2.2.1
    have hlt : t.length = 512 := hc.2.1
    rw [if_pos hp, rright_eq _ hk, br_nd]
    by_cases hr : rightP (y0, (y1, y2, y3, y4, y5, y6), y7)
    · rw [if_pos hr]
      simp only [storeS, if_pos (And.intro hp hr)]
      obtain ⟨l', hl'⟩ : ∃ x : Nat, l = x := ⟨l.toNat, by omega⟩
      obtain ⟨N, hN⟩ : ∃ x : Nat, h + n = x := ⟨(h + n).toNat, by omega⟩
      have e1 : W.wrap .i64 (W.add h n) = (N : Int) := by rw [W.add_eq, W.wi64_id (by omega) (by omega), hN]
      have e2 : W.wrap .i64 (W.quo l 8) = ((l / 8).toNat : Int) := by rw [quo8 (by omega) (by omega)]; omega
      have e3 : W.len b = 64 := by rw [W.len_eq, hlb]
      have e4 : W.len t = 512 := by rw [W.len_eq, hlt]
      let cE : Nat → Nat := fun i => if i ≤ l' then (l / 8).toNat else (i - 1) / 8 + 1
      have loop : ∀ (f : Nat), 1000 < f → P_clevisref11Store_5_0 F_clevisref11Right F_clevisref11places W.big f R l h n ((l' : Nat) : Int) y0 y1 y2 y3 y4 y5 y6 y7 (W.len a) 512 64 a (if l = h then mrk t l' l' else t) (clr b (l / 8).toNat (cE l')) k =
          k (a, if l = h then mrk t l' N else t, if exP l h n then (clr b (l / 8).toNat (cE N)).set (l / 8).toNat (y0, (y1, y2, y3, y4, y5, y6), y7) else clr b (l / 8).toNat (cE N)) := by
        intro f hf
        refine loop_fold (P := fun f i (s' : List Bool × List Kn) => P_clevisref11Store_5_0 F_clevisref11Right F_clevisref11places W.big f R l h n i y0 y1 y2 y3 y4 y5 y6 y7 (W.len a) 512 64 a s'.1 s'.2 k)
          (N := N) (g := fun i => (if l = h then mrk t l' i else t, clr b (l / 8).toNat (cE i))) (a := l') (fun f i hai hi => ?_) (fun f => ?_) (N - l') f l' (by omega) (by omega) (Nat.le_refl _)
        · have e5 : W.wrap .i64 (W.quo (i : Int) 8) = ((i / 8 : Nat) : Int) := by rw [quo8 (by omega) (by omega)]; omega
          have e6 : (clr b (l / 8).toNat (cE i)).set (i / 8) z0 = clr b (l / 8).toNat (cE (i + 1)) := by
            have e7 : cE (i + 1) = i / 8 + 1 := by simp only [cE]; rw [if_neg (by omega)]; rfl
            rw [e7]
            by_cases hi8 : cE i = i / 8
            · rw [hi8, clr_set (by omega)]
            · have : cE i = i / 8 + 1 := by
                by_cases hil : i ≤ l'
                · exfalso; apply hi8; simp only [cE]; rw [if_pos hil]; omega
                · simp only [cE] at hi8 ⊢; rw [if_neg hil] at hi8 ⊢; omega
              rw [this, clr_in (by omega) (by omega)]
          rw [P_clevisref11Store_5_0_s, e1, br_pos (W.lt_t.2 (by omega)), e5, br_pos (inb (by omega)), W.toNat_nat, W.toNat_nat, W.succ64 (by omega), W.set_eq, W.set_eq, br_pos (inb (by omega))]
          dsimp only
          rw [show ((0, (0, 0, 0, 0, 0, 0), 0) : Kn) = z0 from rfl, e6, W.eq_d, br_d]
          by_cases hlh : l = h
          · simp only [if_pos hlh]; rw [mrk_set (by omega)]
          · simp only [if_neg hlh]
        · rw [P_clevisref11Store_5_0_s, e1, br_neg (W.lt_irr _)]
          simp only [or2_tr, br_t, e2, inb0 (show (0 : Int) ≤ ((l / 8).toNat : Nat) by omega) (show (((l / 8).toNat : Nat) : Int) < ((64 : Nat) : Int) by omega), W.toNat_nat, W.set_eq, W.pick_eq, W.eq_d, W.rem]
          rw [exB, br_d]
          by_cases he : exP l h n
          · rw [if_pos he, if_pos he]
          · rw [if_neg he, if_neg he]
      have := loop W.big (big_lt (by omega))
      rw [mrk_none (Nat.le_refl _), show cE l' = (l / 8).toNat by simp [cE], clr_none (Nat.le_refl _), ite_self, ← hl'] at this
      rw [e3, e4, this]
      have e8 : cE N = ((h + n - 1) / 8 + 1).toNat := by simp only [cE]; rw [if_neg (by omega)]; omega
      rw [e8]
      congr 2
      by_cases hlh : l = h
      · rw [if_pos hlh, if_pos hlh]; congr 2 <;> omega
      · rw [if_neg hlh, if_neg hlh]
    · rw [if_neg hr]
      simp only [storeS, hr, and_false, if_false]
  · rw [if_neg hp]
    simp only [storeS, hp, false_and, if_false]
/-- Same: of a state and itself. -/
theorem weq_self (z : Int) : W.eq z z = true := W.eq_t.2 rfl
theorem eqB_self (z : Bool) : W.eqB z z = true := by cases z <;> rfl
theorem same_eq (x : St) (h : smallS x) (k : Bool → Option R) : F_clevisref11Same R (x, x) k = k true := by
  obtain ⟨a, t, b⟩ := x
  obtain ⟨h1, h2, h3⟩ := h
  dsimp only at h1 h2 h3
  simp only [F_clevisref11Same, N_clevisref11Same]
  have ne : ∀ z : Int, W.ne z z = false := fun z => by simp [W.ne_d]
  simp only [ne, W.pick_eq, cond_false, br_f]
  have loop14 := loop_all (P := fun n i => P_clevisref11Same_14_0 W.big n R i a t b a t b k) (N := b.length) (c := fun i => True) (kt := k true) (kf := k false)
    (fun n i ht => by
      rw [P_clevisref11Same_14_0_s, br_pos (W.lt_t.2 (by rw [W.ofNat_eq, W.len_eq]; omega)), br_pos (inb (by rw [W.len_eq]; omega)), br_pos (inb (by rw [W.len_eq]; omega))]
      simp only [weq_self, W.and2, Bool.and_self, W.not_eq, Bool.not_true, br_f, W.succ64 (show i < 9223372036854775807 by omega), if_true])
    (fun n => by rw [P_clevisref11Same_14_0_s, br_neg (by rw [W.ofNat_eq, W.len_eq]; exact W.lt_irr _)]) b.length W.big 0 (by omega) (big_lt (by omega))
  have loop9 := loop_all (P := fun n i => P_clevisref11Same_9_0 W.big n R i a t b a t b k) (N := t.length) (c := fun i => True) (kt := P_clevisref11Same_14_0 W.big W.big R 0 a t b a t b k) (kf := k false)
    (fun n i ht => by
      rw [P_clevisref11Same_9_0_s, br_pos (W.lt_t.2 (by rw [W.ofNat_eq, W.len_eq]; omega)), br_pos (inb (by rw [W.len_eq]; omega)), br_pos (inb (by rw [W.len_eq]; omega))]
      simp only [eqB_self, W.not_eq, Bool.not_true, br_f, W.succ64 (show i < 9223372036854775807 by omega), if_true])
    (fun n => by rw [P_clevisref11Same_9_0_s, br_neg (by rw [W.ofNat_eq, W.len_eq]; exact W.lt_irr _)]) t.length W.big 0 (by omega) (big_lt (by omega))
  have loop4 := loop_all (P := fun n i => P_clevisref11Same_4_0 W.big n R i a t b a t b k) (N := a.length) (c := fun i => True) (kt := P_clevisref11Same_9_0 W.big W.big R 0 a t b a t b k) (kf := k false)
    (fun n i ht => by
      rw [P_clevisref11Same_4_0_s, br_pos (W.lt_t.2 (by rw [W.ofNat_eq, W.len_eq]; omega)), br_pos (inb (by rw [W.len_eq]; omega)), br_pos (inb (by rw [W.len_eq]; omega))]
      simp only [weq_self, W.and2, Bool.and_self, W.not_eq, Bool.not_true, br_f, W.succ64 (show i < 9223372036854775807 by omega), if_true])
    (fun n => by rw [P_clevisref11Same_4_0_s, br_neg (by rw [W.ofNat_eq, W.len_eq]; exact W.lt_irr _)]) a.length W.big 0 (by omega) (big_lt (by omega))
  rw [show ((0 : Nat) : Int) = 0 from rfl] at loop4 loop9 loop14
  simp only [implies_true, if_true] at loop4 loop9 loop14
  rw [loop4, loop9, loop14]
end Go.Proofs.Ytokedpogofnenaa
