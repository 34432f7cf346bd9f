import Derived.Test.YtdfelkcioeinfaaDoorEnwM03b
set_option linter.unusedVariables false
set_option linter.unusedSimpArgs false
set_option maxHeartbeats 4000000
set_option maxRecDepth 100000
namespace Go.Proofs.YtdfelkcioeinfaaDoor
open Go Go.Eng
variable {R : Type}
theorem slice_at (l : List Int) (p q : Nat) : W.slice l p (W.subN q p) = (l.drop p).take (q - p) := rfl
theorem to_n (n : Nat) : W.toNat (n : Int) = n := rfl
theorem plus8 {p c : Nat} (h : p ≤ 100000000) (hc : c ≤ 100) : W.wrap .i64 (W.add (p : Int) (c : Int)) = ((p + c : Nat) : Int) := by
  rw [W.add_eq, W.wi64_id (by omega) (by omega)]; omega
/-- The document's decoding, from a place on. -/
theorem rdec_loop {fl : Nat} {k : List In6 × Int → Option R} (w : List Int) (hb : BtOk w) (hw : w.length ≤ 32768) : ∀ (m e p : Nat) (acc : List In6), p + 8 * m = w.length → acc.length + m ≤ 4096 →
    P_clevisref03Decode_7_0 F_clevisref03slot F_clevisref01Imm fl (e + m + 1) R w acc.length (p : Int) acc k = (decF m (w.drop p)).elim (k ([], 30)) fun r => k (acc ++ r, 0)
  | 0, e, p, acc, hp, hm => by
    rw [P_clevisref03Decode_7_0_s, ol]
    refine brf (cF q5 (by omega)) ?_
    simp [decF]
  | 1, e, p, acc, hp, hm => by
    rw [P_clevisref03Decode_7_0_s]
    have e8 : W.wrap .i64 (W.add (p : Int) 8) = ((p + 8 : Nat) : Int) := plus8 (c := 8) (by omega) (by omega)
    have h8 : ((w.drop p).take 8).length = 8 := by simp; omega
    simp only [ol, e8, to_n, slice_at, show p + 8 - p = 8 by omega, slot_eq _ ((hb.drop p).take 8) h8]
    refine brt (cT q5 (by omega)) (brt (cT qs ⟨by omega, by omega, by omega⟩) ?_)
    by_cases h : (rd ((w.drop p).take 8)).1 = 24
    · refine brf (cF q9 (fun c => c h)) (brt (cT q4 (by omega)) ?_)
      simp [decF, h]
    · refine brt (cT q9 h) (brt (cT qn (by unfold W.mulN W.addN; omega)) ?_)
      have hlen : (acc ++ [rd ((w.drop p).take 8)]).length = W.addN acc.length 1 := by simp [W.addN]
      have := rdec_loop (fl := fl) (k := k) w hb hw 0 e (p + 8) (acc ++ [rd ((w.drop p).take 8)]) (by omega) (by simp; omega)
      rw [hlen] at this
      refine Eq.trans this ?_
      simp [decF, h]
  | m + 2, e, p, acc, hp, hm => by
    rw [P_clevisref03Decode_7_0_s]
    have e8 : W.wrap .i64 (W.add (p : Int) 8) = ((p + 8 : Nat) : Int) := plus8 (c := 8) (by omega) (by omega)
    have e16 : W.wrap .i64 (W.add (p : Int) 16) = ((p + 16 : Nat) : Int) := plus8 (c := 16) (by omega) (by omega)
    have e88 : W.wrap .i64 (W.add ((p + 8 : Nat) : Int) 8) = ((p + 16 : Nat) : Int) := plus8 (p := p + 8) (c := 8) (by omega) (by omega)
    have h8 : ((w.drop p).take 8).length = 8 := by simp; omega
    have h82 : ((w.drop (p + 8)).take 8).length = 8 := by simp; omega
    have ed : (w.drop p).drop 8 = w.drop (p + 8) := by rw [List.drop_drop]
    have ed2 : (w.drop p).drop 16 = w.drop (p + 16) := by rw [List.drop_drop]
    simp only [ol, e8, e16, e88, to_n, slice_at, show p + 8 - p = 8 by omega, show p + 16 - (p + 8) = 8 by omega, slot_eq _ ((hb.drop p).take 8) h8, slot_eq _ ((hb.drop (p + 8)).take 8) h82]
    refine brt (cT q5 (by omega)) (brt (cT qs ⟨by omega, by omega, by omega⟩) ?_)
    by_cases h : (rd ((w.drop p).take 8)).1 = 24
    · refine brf (cF q9 (fun c => c h)) (brf (cF q4 (by omega)) (brt (cT qs ⟨by omega, by omega, by omega⟩) ?_))
      by_cases h2 : isz (rd ((w.drop (p + 8)).take 8))
      · refine brf (cF isz_r (fun c => c h2)) ?_
        rw [rimz_eq, rimz_eq]
        refine brt (cT qn (by unfold W.mulN W.addN; omega)) ?_
        have hlen : (acc ++ [wide (rd ((w.drop p).take 8)) (rd ((w.drop (p + 8)).take 8)), zi]).length = W.addN acc.length 2 := by simp [W.addN]
        have := rdec_loop (fl := fl) (k := k) w hb hw m (e + 1) (p + 16) (acc ++ [wide (rd ((w.drop p).take 8)) (rd ((w.drop (p + 8)).take 8)), zi]) (by omega) (by simp; omega)
        rw [hlen] at this
        rw [show e + (m + 2) = e + 1 + m + 1 by omega, wide_add (u32i_lt _) (u32i_lt _)]
        refine Eq.trans this ?_
        simp only [decF, if_pos h, ed, ed2, if_pos h2]
        cases decF m (w.drop (p + 16)) with
        | none => rfl
        | some r => simp
      · refine brt (cT isz_r h2) ?_
        simp [decF, h, ed, h2]
    · refine brt (cT q9 h) (brt (cT qn (by unfold W.mulN W.addN; omega)) ?_)
      have hlen : (acc ++ [rd ((w.drop p).take 8)]).length = W.addN acc.length 1 := by simp [W.addN]
      have := rdec_loop (fl := fl) (k := k) w hb hw (m + 1) e (p + 8) (acc ++ [rd ((w.drop p).take 8)]) (by omega) (by simp; omega)
      rw [hlen] at this
      refine Eq.trans this ?_
      simp only [decF, if_neg h, ed]
      cases decF (m + 1) (w.drop (p + 8)) with
      | none => rfl
      | some r => simp
theorem bigs {n : Nat} (h : n < 18446744073709551616) : ∃ m, W.big = m + n := ⟨W.big - n, by unfold W.big; omega⟩
theorem q0 {a b : Int} {n : Int} : W.pick (W.eq a 0) true (W.gt b 0) = true ↔ a = 0 ∨ 0 < b := by simp only [W.pick_eq, W.eq_d, W.gt_d]; by_cases h : a = 0 <;> simp [h]
theorem q0r {a b : Int} : W.pick (W.eq a 0) true (W.ne b 0) = true ↔ a = 0 ∨ b ≠ 0 := by simp only [W.pick_eq, W.eq_d, W.ne_d]; by_cases h : a = 0 <;> simp [h]
theorem rem8 (n : Nat) : W.rem (n : Int) 8 = ((n % 8 : Nat) : Int) := rfl
theorem quo8 {n : Nat} (h : n ≤ 140737488355328) : W.wrap .i64 (W.quo (n : Int) 8) = ((n / 8 : Nat) : Int) := by
  rw [show W.quo (n : Int) 8 = ((n / 8 : Nat) : Int) from rfl, W.wi64_id (by omega) (by omega)]
theorem or2t (a : Bool) : W.or2 a true = true := by unfold W.or2; simp
theorem dec_eq (l : List Int) (hb : BtOk l) (hl : l.length ≤ 140737488355328) (k : List In6 × Int → Option R) : F_code_Decode R l k = k (decC l) := by
  show E_code_decoded_1 R (l, ()) (fun z => k ([], z.1)) (fun z => k (z.2.1, 0)) = _
  show N_code_decoded_1 F_code_read F_word_Imm W.big R (l, ()) _ _ = _
  unfold N_code_decoded_1 decC
  simp only [ol, rem8, quo8 hl, or2t]
  refine brt (Eq.refl true) ?_
  by_cases h0 : l.length = 0 ∨ l.length % 8 ≠ 0
  · rw [if_pos h0]
    exact brt (cT (q0 (n := 0)) (by omega)) (Eq.refl _)
  rw [if_neg h0]
  refine brf (cF (q0 (n := 0)) (by omega)) ?_
  by_cases h1 : 4096 < l.length / 8
  · rw [if_pos h1]
    exact brt (cT q8 (by omega)) (Eq.refl _)
  rw [if_neg h1]
  refine brf (cF q8 (by omega)) ?_
  obtain ⟨e, he⟩ := bigs (n := l.length / 8 + 1) (by omega)
  have := dec_loop (R := R) (fl := W.big) (k := fun z => k ([], z.1)) (k2 := fun z => k (z.2.1, 0)) (l.length / 8) e l [] (by omega) hb (by simp; omega)
  rw [show e + l.length / 8 + 1 = W.big by omega] at this
  refine Eq.trans this ?_
  cases decF (l.length / 8) l with
  | none => rfl
  | some r => simp
theorem rdec_eq (l : List Int) (hb : BtOk l) (hl : l.length ≤ 140737488355328) (k : List In6 × Int → Option R) : F_clevisref03Decode R l k = k (decC l) := by
  show N_clevisref03Decode F_clevisref03slot F_clevisref01Imm W.big R l k = _
  unfold N_clevisref03Decode decC
  simp only [ol, rem8, quo8 hl, or2t]
  refine brt (Eq.refl true) ?_
  by_cases h0 : l.length = 0 ∨ l.length % 8 ≠ 0
  · rw [if_pos h0]
    exact brt (cT q0r (by omega)) (Eq.refl _)
  rw [if_neg h0]
  refine brf (cF q0r (by omega)) ?_
  by_cases h1 : 4096 < l.length / 8
  · rw [if_pos h1]
    exact brt (cT q8 (by omega)) (Eq.refl _)
  rw [if_neg h1]
  refine brf (cF q8 (by omega)) ?_
  obtain ⟨e, he⟩ := bigs (n := l.length / 8 + 1) (by omega)
  have := rdec_loop (R := R) (fl := W.big) (k := k) l hb (by omega) (l.length / 8) e 0 [] (by omega) (by simp; omega)
  rw [show e + l.length / 8 + 1 = W.big by omega] at this
  refine Eq.trans this ?_
  rw [List.drop_zero]
  cases decF (l.length / 8) l with
  | none => rfl
  | some r => simp
end Go.Proofs.YtdfelkcioeinfaaDoor
