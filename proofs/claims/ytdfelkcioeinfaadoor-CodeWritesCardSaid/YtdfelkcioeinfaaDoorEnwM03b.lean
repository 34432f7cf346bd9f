import Derived.Test.YtdfelkcioeinfaaDoorEnwM03a
import Derived.Test.YtdfelkcioeinfaaDoorEnwW08
set_option linter.unusedVariables false
set_option linter.unusedSimpArgs false
set_option maxHeartbeats 4000000
set_option maxRecDepth 100000
namespace Go.Proofs.YtdfelkcioeinfaaDoor
open Go Go.Eng
variable {R : Type}
theorem brt {α : Type} {c : Bool} {a b z : α} (h : c = true) (e : a = z) : br c a b = z := by subst h; rw [Go.Eng.br_t]; exact e
theorem brf {α : Type} {c : Bool} {a b z : α} (h : c = false) (e : b = z) : br c a b = z := by subst h; rw [Go.Eng.br_f]; exact e
theorem q1 {a b : Int} : W.eq a b = true ↔ a = b := by rw [W.eq_d]; simp
theorem q4 {a b : Int} : W.ge a b = true ↔ b ≤ a := by rw [W.ge_d]; simp
theorem q5 {a b : Int} : W.lt a b = true ↔ a < b := by rw [W.lt_d]; simp
theorem q7 {a b : Int} : W.le a b = true ↔ a ≤ b := by rw [W.le_d]; simp
theorem q8 {a b : Int} : W.gt a b = true ↔ b < a := by rw [W.gt_d]; simp
theorem q9 {a b : Int} : W.ne a b = true ↔ a ≠ b := by rw [W.ne_d]; simp
theorem q6 {a b c : Int} : W.and2 (W.le a b) (W.lt b c) = true ↔ a ≤ b ∧ b < c := by simp only [W.and2, W.le_d, W.lt_d]; by_cases h : a ≤ b <;> simp [h]
theorem qs {a b c d : Int} : W.and2 (W.le a b) (W.and2 (W.le b c) (W.le c d)) = true ↔ a ≤ b ∧ b ≤ c ∧ c ≤ d := by simp only [W.and2, W.le_d]; by_cases h : a ≤ b <;> by_cases h2 : b ≤ c <;> simp [h, h2]
theorem qn {a b : Nat} : W.leN a b = true ↔ a ≤ b := by unfold W.leN; simp
theorem cT {P : Prop} {c : Bool} (e : c = true ↔ P) (h : P) : c = true := e.2 h
theorem cF {P : Prop} {c : Bool} (e : c = true ↔ P) (h : ¬ P) : c = false := by cases c with | false => rfl | true => exact absurd (e.1 rfl) h
theorem ol (l : List Int) : W.ofNat (W.len l) = (l.length : Int) := by rw [W.ofNat_eq, W.len_eq]
theorem olI (l : List In6) : W.ofNat (W.len l) = (l.length : Int) := by rw [W.ofNat_eq, W.len_eq]
theorem g0 (l : List Int) : W.get l 0 0 = bt l 0 := by rw [W.get_eq]; rfl
theorem g1 (l : List Int) : W.get l 1 0 = bt l 1 := by rw [W.get_eq]; rfl
theorem read_eq (l : List Int) (h : BtOk l) (h8 : l.length = 8) (k : In6 → Option R) : F_code_read R l k = k (rd l) := by
  show N_code_read F_word_Get R l k = _
  unfold N_code_read
  simp only [ol, h8, g0, g1]
  refine brt (by decide) (brt (by decide) (brt (by decide) (brt (by decide) ?_)))
  rw [get_eq _ (h.slice 2 2)]
  refine brt (by decide) ?_
  rw [get_eq _ (h.slice 4 4), i64_8 (h 0), and15 (h 1), shr4 (h 1)]
  rfl
theorem hg_p {l : List Int} (h : BtOk l) : p64 (hg l 8) := by
  have := hg_lt h 8
  rw [show (256 : Int) ^ 8 = 18446744073709551616 by decide] at this
  exact this
theorem slot_eq (l : List Int) (h : BtOk l) (h8 : l.length = 8) (k : In6 → Option R) : F_clevisref03slot R l k = k (rd l) := by
  show N_clevisref03slot F_clevisref01Sign F_clevisref01Get R l k = _
  unfold N_clevisref03slot
  simp only [ol, h8, g0, g1]
  refine brt (by decide) ?_
  rw [rget_eq _ (h.slice 2 2), rsign_eq _ (hg_p (h.slice 2 2))]
  refine brt (by decide) ?_
  rw [rget_eq _ (h.slice 4 4), rsign_eq _ (hg_p (h.slice 4 4))]
  refine brt (by decide) (brt (by decide) (brt (by decide) ?_))
  rw [i64_8 (h 0), rem16 (h 1), quo16b (h 1)]
  refine congrArg k ?_
  have a2 : ∀ x, sgnN x 2 = W.wrap .u64 (W.wrap .i16 x) := fun x => rfl
  have a4 : ∀ x, sgnN x 4 = W.wrap .u64 (W.wrap .i32 x) := fun x => rfl
  show _ = ((bt l 0, bt l 1 % 16, bt l 1 / 16, W.wrap .i64 (W.wrap .i16 (hg (W.slice l 2 2) 8)), W.wrap .i64 (W.wrap .i32 (hg (W.slice l 4 4) 8)), 0) : In6)
  dsimp only
  rw [a2, a4, i64_u64, i64_u64]
theorem imz_eq (a : Int) (k : Int → Option R) : F_word_Imm R (a, false) k = k (u32i a) := imm_eq (a, false) k
theorem rimz_eq (a : Int) (k : Int → Option R) : F_clevisref01Imm R (a, false) k = k (u32i a) := rimm_eq (a, false) k
theorem isz_b {j : In6} (hw : j.2.2.2.2.2 = 0) : W.and2 (W.eq j.1 0) (W.and2 (W.eq j.2.1 0) (W.and2 (W.eq j.2.2.1 0) (W.and2 (W.eq j.2.2.2.1 0) (W.and2 (W.eq j.2.2.2.2.1 j.2.2.2.2.1) (W.and2 (W.eq j.2.2.2.2.2 0) true))))) = decide (isz j) := by
  rw [Bool.eq_iff_iff, decide_eq_true_iff]
  unfold isz
  simp [W.and2, W.eq_d, hw]
theorem isz_r {j : In6} : W.pick (W.pick (W.pick (W.ne j.1 0) true (W.ne j.2.1 0)) true (W.ne j.2.2.1 0)) true (W.ne j.2.2.2.1 0) = true ↔ ¬ isz j := by
  simp only [W.pick_eq, W.ne_d, isz]
  by_cases h1 : j.1 = 0 <;> by_cases h2 : j.2.1 = 0 <;> by_cases h3 : j.2.2.1 = 0 <;> by_cases h4 : j.2.2.2.1 = 0 <;> simp [h1, h2, h3, h4]
theorem rd_op (l : List Int) : (rd l).2.2.2.2.2 = 0 := rfl
theorem d1 {l : List Int} {m : Nat} (h : l.length = 8 * (m + 1)) : (l.drop 8).length = 8 * m := by simp; omega
theorem t1 {l : List Int} {m : Nat} (h : l.length = 8 * (m + 1)) : (l.take 8).length = 8 := by simp; omega
theorem uw (a : Int) : W.wrap .u64 (W.wrap .u32 (W.wrap .u64 (W.wrap .i32 a))) = u32i a := by
  unfold u32i low
  rw [if_neg (by decide), W.wu32, W.wu64_id (by omega) (by omega)]
/-- The program's decoding, from an instruction on. -/
theorem dec_loop {fl : Nat} {k : OT_code_decoded_1 → Option R} {k2 : OT2_code_decoded_1 → Option R} : ∀ (m e : Nat) (l : List Int) (acc : List In6), l.length = 8 * m → BtOk l → acc.length + m ≤ 4096 →
    P_code_decoded_1_6_0 F_code_read F_word_Imm fl (e + m + 1) R l acc.length acc k k2 = (decF m l).elim (k (30, ())) fun r => k2 (acc.length + r.length, acc ++ r, ())
  | 0, e, l, acc, hl, hb, hm => by
    obtain rfl : l = [] := List.length_eq_zero_iff.1 (by omega)
    rw [P_code_decoded_1_6_0_s]
    refine brf (by rfl) ?_
    simp [decF]
  | 1, e, l, acc, hl, hb, hm => by
    have h8 := t1 (m := 0) hl
    have hd := d1 (m := 0) hl
    rw [P_code_decoded_1_6_0_s]
    simp only [ol, slice_t, slice_d, read_eq _ (hb.take 8) h8, hl]
    refine brt (by decide) (brt (by decide) (brt (by decide) (brt (cT qn (by unfold W.mulN W.addN; omega)) ?_)))
    by_cases h : (rd (l.take 8)).1 = 24
    · refine brf (cF q9 (fun c => c h)) (brt (cT q1 (by omega)) ?_)
      simp [decF, h]
    · refine brt (cT q9 h) ?_
      have hlen : (acc ++ [rd (l.take 8)]).length = W.addN acc.length 1 := by simp [W.addN]
      have := dec_loop (fl := fl) (k := k) (k2 := k2) 0 e (l.drop 8) (acc ++ [rd (l.take 8)]) hd (hb.drop 8) (by simp; omega)
      rw [hlen] at this
      refine Eq.trans this ?_
      simp [decF, h, W.addN]
  | m + 2, e, l, acc, hl, hb, hm => by
    have h8 := t1 (m := m + 1) hl
    have hd := d1 (m := m + 1) hl
    have h82 := t1 (m := m) hd
    have hd2 := d1 (m := m) hd
    rw [P_code_decoded_1_6_0_s]
    simp only [ol, slice_t, slice_d, read_eq _ (hb.take 8) h8, read_eq _ ((hb.drop 8).take 8) h82]
    refine brt (cT q8 (by omega)) (brt (cT q7 (by omega)) (brt (cT q7 (by omega)) (brt (cT qn (by unfold W.mulN W.addN; omega)) ?_)))
    by_cases h : (rd (l.take 8)).1 = 24
    · refine brf (cF q9 (fun c => c h)) (brf (cF q1 (by omega)) (brt (cT q7 (by omega)) (brt (cT q7 (by omega)) ?_)))
      rw [isz_b (rd_op _)]
      by_cases h2 : isz (rd ((l.drop 8).take 8))
      · refine brf (by rw [decide_eq_true h2]; rfl) ?_
        rw [imz_eq, imz_eq]
        simp only [idx_c (c := acc.length) (by omega)]
        refine brt (cT q6 ⟨by omega, by unfold W.addN; rw [W.ofNat_eq]; omega⟩) (brt (cT qn (by unfold W.mulN W.addN; omega)) ?_)
        have hlen : (acc ++ [wide (rd (l.take 8)) (rd ((l.drop 8).take 8))] ++ [zi]).length = W.addN (W.addN acc.length 1) 1 := by simp [W.addN]
        have := dec_loop (fl := fl) (k := k) (k2 := k2) m (e + 1) ((l.drop 8).drop 8) (acc ++ [wide (rd (l.take 8)) (rd ((l.drop 8).take 8))] ++ [zi]) hd2 ((hb.drop 8).drop 8) (by simp; omega)
        rw [hlen] at this
        rw [show e + (m + 2) = e + 1 + m + 1 by omega]
        have ew : W.wrap .u64 (W.or .u64 (W.wrap .u64 (W.shl .u64 (u32i (rd ((l.drop 8).take 8)).2.2.2.2.1) 32)) (u32i (rd (l.take 8)).2.2.2.2.1)) = u32i (rd ((l.drop 8).take 8)).2.2.2.2.1 * 4294967296 + u32i (rd (l.take 8)).2.2.2.2.1 := wide_or (u32i_lt _) (u32i_lt _)
        rw [ew, show W.toNat (acc.length : Int) = acc.length from rfl]
        have eg := get_app acc (rd (l.take 8)) zi
        have es := set_app acc (rd (l.take 8)) (wide (rd (l.take 8)) (rd ((l.drop 8).take 8)))
        have e3 : W.get (W.app acc [((rd (l.take 8)).1, (rd (l.take 8)).2.1, (rd (l.take 8)).2.2.1, (rd (l.take 8)).2.2.2.1, (rd (l.take 8)).2.2.2.2.1, (rd (l.take 8)).2.2.2.2.2)]) acc.length (0, 0, 0, 0, 0, 0) = rd (l.take 8) := eg
        rw [e3]
        have e4 : W.set (W.app acc [((rd (l.take 8)).1, (rd (l.take 8)).2.1, (rd (l.take 8)).2.2.1, (rd (l.take 8)).2.2.2.1, (rd (l.take 8)).2.2.2.2.1, (rd (l.take 8)).2.2.2.2.2)]) acc.length ((rd (l.take 8)).1, (rd (l.take 8)).2.1, (rd (l.take 8)).2.2.1, (rd (l.take 8)).2.2.2.1, (rd (l.take 8)).2.2.2.2.1, u32i (rd ((l.drop 8).take 8)).2.2.2.2.1 * 4294967296 + u32i (rd (l.take 8)).2.2.2.2.1) = acc ++ [wide (rd (l.take 8)) (rd ((l.drop 8).take 8))] := es
        rw [e4]
        refine Eq.trans this ?_
        have e16 : (l.drop 8).drop 8 = l.drop 16 := by rw [List.drop_drop]
        rw [e16]
        simp only [decF, if_pos h, if_pos h2]
        cases decF m (l.drop 16) with
        | none => rfl
        | some r =>
          simp only [Option.map_some, Option.elim_some]
          refine congrArg k2 (Prod.ext ?_ (Prod.ext (by simp) rfl))
          show acc.length + 1 + 1 + r.length = acc.length + (r.length + 1 + 1)
          omega
      · refine brt (by rw [decide_eq_false h2]; rfl) ?_
        simp [decF, h, h2]
    · refine brt (cT q9 h) ?_
      have hlen : (acc ++ [rd (l.take 8)]).length = W.addN acc.length 1 := by simp [W.addN]
      have := dec_loop (fl := fl) (k := k) (k2 := k2) (m + 1) e (l.drop 8) (acc ++ [rd (l.take 8)]) hd (hb.drop 8) (by simp; omega)
      rw [hlen] at this
      refine Eq.trans this ?_
      simp only [decF, if_neg h]
      cases decF (m + 1) (l.drop 8) with
      | none => rfl
      | some r =>
        simp only [Option.map_some, Option.elim_some]
        refine congrArg k2 (Prod.ext ?_ (Prod.ext (by simp) rfl))
        show acc.length + 1 + r.length = acc.length + (r.length + 1)
        omega
end Go.Proofs.YtdfelkcioeinfaaDoor
