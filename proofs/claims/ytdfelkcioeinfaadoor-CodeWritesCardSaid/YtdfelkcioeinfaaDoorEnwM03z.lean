import Derived.Test.YtdfelkcioeinfaaDoorEnwM03g
set_option linter.unusedVariables false
set_option linter.unusedSimpArgs false
set_option maxHeartbeats 1000000
set_option maxRecDepth 100000
namespace Go.Proofs.YtdfelkcioeinfaaDoor
open Go Go.Eng
variable {R : Type}
theorem rwithin_eq (x lo hi : Int) (k : Bool → Option R) : F_clevisref03within R (x, lo, hi) k = k (decide (lo ≤ x) && decide (x ≤ hi)) := by
  show k (W.pick (W.ge x lo) (W.le x hi) false) = _
  rw [pickF, W.ge_d, W.le_d]
theorem nT {x lo hi : Int} (h : lo ≤ x ∧ x ≤ hi) : (decide (lo ≤ x) && decide (x ≤ hi)) = true := by simp [h]
theorem nF {x lo hi : Int} (h : ¬ (lo ≤ x ∧ x ≤ hi)) : (decide (lo ≤ x) && decide (x ≤ hi)) = false := by simpa using h
theorem nnT {x lo hi : Int} (h : lo ≤ x ∧ x ≤ hi) : W.not (W.not (decide (lo ≤ x) && decide (x ≤ hi))) = true := by rw [nT h]; rfl
theorem nnF {x lo hi : Int} (h : ¬ (lo ≤ x ∧ x ≤ hi)) : W.not (W.not (decide (lo ≤ x) && decide (x ≤ hi))) = false := by rw [nF h]; rfl
theorem rbytes_eq (x : In6) (h1 : 0 ≤ x.1 ∧ x.1 ≤ 255) (h2 : 0 ≤ x.2.1 ∧ x.2.1 ≤ 15) (h3 : 0 ≤ x.2.2.1 ∧ x.2.2.1 ≤ 15) (k : List Int → Option R) : F_clevisref03bytes R (x.1, x.2.1, x.2.2.1, x.2.2.2.1, x.2.2.2.2.1, x.2.2.2.2.2) k = k (bts x) := by
  show N_clevisref03bytes F_clevisref01Put R (x.1, x.2.1, x.2.2.1, x.2.2.2.1, x.2.2.2.2.1, x.2.2.2.2.2) k = _
  unfold N_clevisref03bytes
  simp only
  rw [rput_eq]
  refine brt (by rfl) ?_
  rw [rput_eq]
  refine brt (by rfl) ?_
  have e : W.wrap .u8 (W.wrap .i64 (W.add x.2.1 (W.wrap .i64 (W.mul 16 x.2.2.1)))) = x.2.1 + 16 * x.2.2.1 := by
    rw [W.mul_eq, W.wi64_id (show -9223372036854775808 ≤ 16 * x.2.2.1 by omega) (by omega), W.add_eq, W.wi64_id (by omega) (by omega), W.wu8, Int.emod_eq_of_lt (by omega) (by omega)]
  rw [e, W.wu8, Int.emod_eq_of_lt h1.1 (by omega)]
  rfl
theorem drop_x {l : List In6} {i : Nat} {x : In6} {r : List In6} (h : l.drop i = x :: r) : l.getD i zi = x ∧ l.drop (i + 1) = r ∧ i < l.length := by
  have hi : i < l.length := by
    rcases Nat.lt_or_ge i l.length with c | c
    · exact c
    · rw [List.drop_of_length_le c] at h; cases h
  rw [List.drop_eq_getElem_cons hi] at h
  obtain ⟨h1, h2⟩ := List.cons.inj h
  exact ⟨by rw [List.getD_eq_getElem?_getD, List.getElem?_eq_getElem hi]; exact h1, h2, hi⟩
theorem rem32 {w : Int} (h : 0 ≤ w) : W.rem w 4294967296 = w % 4294967296 := by
  unfold W.rem; exact Int.tmod_eq_emod_of_nonneg h
theorem quo32 {w : Int} (h : 0 ≤ w ∧ w < 18446744073709551616) : W.wrap .i64 (W.wrap .u64 (W.quo w 4294967296)) = w / 4294967296 := by
  have e : W.quo w 4294967296 = w / 4294967296 := by unfold W.quo; exact Int.tdiv_eq_ediv_of_nonneg h.1
  rw [e, W.wu64_id (by omega) (by omega), W.wi64_id (by omega) (by omega)]
theorem enc_bad {x : In6} (h : ¬ okI x) : ∀ r, encF (x :: r) = none
  | [] => by simp only [encF]; exact if_neg fun c => h c.1
  | j :: r => by simp only [encF]; exact if_neg h
/-- The document's writing of a code, from a place on. -/
theorem renc_loop {fl : Nat} {k : List Int × Int → Option R} (l : List In6) (hw : ∀ x ∈ l, wOk x) (hll : l.length ≤ 4096) : ∀ (s : List In6) (e i : Nat) (acc : List Int), l.drop i = s → i + s.length = l.length → acc.length + 8 * s.length ≤ 40000 →
    P_clevisref03Encode_5_0 F_clevisref01Imm F_clevisref03within F_clevisref03bytes fl (e + s.length + 1) R l acc.length (i : Int) acc k = (encF s).elim (k ([], 2)) fun b => k (acc ++ b, 0)
  | [], e, i, acc, hs, hi, hl => by
    rw [P_clevisref03Encode_5_0_s, olI]
    refine brf (cF q5 (by simp at hi; omega)) ?_
    simp [encF]
  | [x], e, i, acc, hs, hi, hl => by
    obtain ⟨hx, hr, hlt⟩ := drop_x hs
    have hi' : i + 1 = l.length := hi
    rw [P_clevisref03Encode_5_0_s]
    simp only [olI, getzi, hx, next (i := i) (by omega), next (i := i + 1) (by omega)]
    refine brt (cT q5 (by omega)) (brt (cT q6 ⟨by omega, by omega⟩) ?_)
    by_cases hk : okI x
    rotate_left
    · have hn : encF [x] = none := enc_bad hk _
      rw [hn]
      unfold okI at hk
      rw [rwithin_eq]
      by_cases g1 : 0 ≤ x.1 ∧ x.1 ≤ 255
      rotate_left
      · exact brf (nnF g1) (Eq.refl _)
      refine brt (nnT g1) ?_
      rw [rwithin_eq]
      by_cases g2 : 0 ≤ x.2.1 ∧ x.2.1 ≤ 15
      rotate_left
      · exact brf (nnF g2) (Eq.refl _)
      refine brt (nnT g2) ?_
      rw [rwithin_eq]
      by_cases g3 : 0 ≤ x.2.2.1 ∧ x.2.2.1 ≤ 15
      rotate_left
      · exact brf (nnF g3) (Eq.refl _)
      refine brt (nnT g3) ?_
      rw [rwithin_eq]
      by_cases g4 : -32768 ≤ x.2.2.2.1 ∧ x.2.2.2.1 ≤ 32767
      rotate_left
      · exact brf (nnF g4) (Eq.refl _)
      refine brt (nnT g4) ?_
      rw [rwithin_eq]
      by_cases g5 : -2147483648 ≤ x.2.2.2.2.1 ∧ x.2.2.2.2.1 ≤ 2147483647
      · exact absurd ⟨g1, g2, g3, g4, g5⟩ hk
      exact brt (by rw [nF g5]; rfl) (Eq.refl _)
    obtain ⟨g1, g2, g3, g4, g5⟩ := id hk
    rw [rwithin_eq]; refine brt (nnT g1) ?_
    rw [rwithin_eq]; refine brt (nnT g2) ?_
    rw [rwithin_eq]; refine brt (nnT g3) ?_
    rw [rwithin_eq]; refine brt (nnT g4) ?_
    rw [rwithin_eq]; refine brf (by rw [nT g5]; rfl) ?_
    rw [rbytes_eq x g1 g2 g3]
    refine brt (cT qn (by unfold W.mulN W.addN; rw [W.len_eq, bts_len]; simp only [List.length_cons, List.length_nil] at hl; omega)) ?_
    by_cases h24 : x.1 = 24
    · refine brf (cF q9 fun c => c h24) ?_
      rw [rimz_eq]
      have hg : W.ge ((i + 1 : Nat) : Int) (l.length : Int) = true := cT q4 (by omega)
      rw [hg, pickT, Bool.or_true]
      refine brt (by rfl) (brt (by rfl) ?_)
      simp [encF, h24]
    · refine brt (cT q9 h24) ?_
      by_cases h0 : x.2.2.2.2.2 = 0
      · refine brf (cF q9 fun c => c h0) ?_
        have := renc_loop (fl := fl) (k := k) l hw hll [] e (i + 1) (acc ++ bts x) hr (by simpa using hi') (by simp [bts_len] at hl ⊢; omega)
        rw [show (acc ++ bts x).length = W.addN acc.length (W.len (bts x)) by unfold W.addN; rw [W.len_eq]; simp] at this
        refine Eq.trans this ?_
        simp [encF, hk, h24, h0]
      · refine brt (cT q9 h0) ?_
        simp [encF, h0]
  | x :: j :: r, e, i, acc, hs, hi, hl => by
    obtain ⟨hx, hr, hlt⟩ := drop_x hs
    obtain ⟨hj, hr2, hlt2⟩ := drop_x hr
    have wx : wOk x := hw x (by rw [← hx, List.getD_eq_getElem?_getD, List.getElem?_eq_getElem hlt]; exact List.getElem_mem hlt)
    have hi' : i + (r.length + 1 + 1) = l.length := hi
    rw [P_clevisref03Encode_5_0_s]
    simp only [olI, getzi, hx, next (i := i) (by omega), next (i := i + 1) (by omega)]
    refine brt (cT q5 (by omega)) (brt (cT q6 ⟨by omega, by omega⟩) ?_)
    by_cases hk : okI x
    rotate_left
    · have hn : encF (x :: j :: r) = none := enc_bad hk _
      rw [hn]
      unfold okI at hk
      rw [rwithin_eq]
      by_cases g1 : 0 ≤ x.1 ∧ x.1 ≤ 255
      rotate_left
      · exact brf (nnF g1) (Eq.refl _)
      refine brt (nnT g1) ?_
      rw [rwithin_eq]
      by_cases g2 : 0 ≤ x.2.1 ∧ x.2.1 ≤ 15
      rotate_left
      · exact brf (nnF g2) (Eq.refl _)
      refine brt (nnT g2) ?_
      rw [rwithin_eq]
      by_cases g3 : 0 ≤ x.2.2.1 ∧ x.2.2.1 ≤ 15
      rotate_left
      · exact brf (nnF g3) (Eq.refl _)
      refine brt (nnT g3) ?_
      rw [rwithin_eq]
      by_cases g4 : -32768 ≤ x.2.2.2.1 ∧ x.2.2.2.1 ≤ 32767
      rotate_left
      · exact brf (nnF g4) (Eq.refl _)
      refine brt (nnT g4) ?_
      rw [rwithin_eq]
      by_cases g5 : -2147483648 ≤ x.2.2.2.2.1 ∧ x.2.2.2.2.1 ≤ 2147483647
      · exact absurd ⟨g1, g2, g3, g4, g5⟩ hk
      exact brt (by rw [nF g5]; rfl) (Eq.refl _)
    obtain ⟨g1, g2, g3, g4, g5⟩ := id hk
    rw [rwithin_eq]; refine brt (nnT g1) ?_
    rw [rwithin_eq]; refine brt (nnT g2) ?_
    rw [rwithin_eq]; refine brt (nnT g3) ?_
    rw [rwithin_eq]; refine brt (nnT g4) ?_
    rw [rwithin_eq]; refine brf (by rw [nT g5]; rfl) ?_
    rw [rbytes_eq x g1 g2 g3]
    refine brt (cT qn (by unfold W.mulN W.addN; rw [W.len_eq, bts_len]; simp only [List.length_cons, List.length_nil] at hl; omega)) ?_
    by_cases h24 : x.1 = 24
    · refine brf (cF q9 fun c => c h24) ?_
      rw [rimz_eq, rem32 wx.1, hj]
      have hg : W.ge ((i + 1 : Nat) : Int) (l.length : Int) = false := cF q4 (by omega)
      have hin : W.and2 (W.le 0 ((i + 1 : Nat) : Int)) (W.lt ((i + 1 : Nat) : Int) (l.length : Int)) = true := cT q6 ⟨by omega, by omega⟩
      have hj2 : W.and2 (W.eq j.1 0) (W.and2 (W.eq j.2.1 0) (W.and2 (W.eq j.2.2.1 0) (W.and2 (W.eq j.2.2.2.1 0) (W.and2 (W.eq j.2.2.2.2.1 0) (W.and2 (W.eq j.2.2.2.2.2 0) true))))) = decide (j = zi) := same6 j zi
      rw [hg, hin, hj2, or2t, pickT, pickT, Bool.or_false, W.ne_d]
      refine brt (Eq.refl true) ?_
      by_cases hc : j = zi ∧ u32i x.2.2.2.2.1 = x.2.2.2.2.2 % 4294967296
      · refine brf (by rw [decide_eq_true hc.1, decide_eq_false (fun c => c hc.2)]; rfl) ?_
        rw [quo32 wx]
        refine (rbytes_eq (half x) (show (0 : Int) ≤ 0 ∧ (0 : Int) ≤ 255 by decide) (show (0 : Int) ≤ 0 ∧ (0 : Int) ≤ 15 by decide) (show (0 : Int) ≤ 0 ∧ (0 : Int) ≤ 15 by decide) _).trans ?_
        refine brt (cT qn (by unfold W.mulN W.addN; rw [W.len_eq, W.len_eq, bts_len, bts_len]; simp only [List.length_cons] at hl; omega)) ?_
        have := renc_loop (fl := fl) (k := k) l hw hll r (e + 1) (i + 1 + 1) (acc ++ bts x ++ bts (half x)) hr2 (by omega) (by simp [bts_len] at hl ⊢; omega)
        rw [show (acc ++ bts x ++ bts (half x)).length = W.addN (W.addN acc.length (W.len (bts x))) (W.len (bts (half x))) by unfold W.addN; rw [W.len_eq, W.len_eq]; simp; omega] at this
        rw [show e + (x :: j :: r).length = e + 1 + r.length + 1 by simp only [List.length_cons]; omega]
        refine Eq.trans this ?_
        simp only [encF, if_pos hk, if_pos h24, if_pos hc]
        cases encF r with
        | none => rfl
        | some b => simp
      · refine brt ?_ ?_
        · by_cases hz : j = zi
          · have : ¬ u32i x.2.2.2.2.1 = x.2.2.2.2.2 % 4294967296 := fun c => hc ⟨hz, c⟩
            rw [decide_eq_true (show u32i x.2.2.2.2.1 ≠ x.2.2.2.2.2 % 4294967296 from this)]; rfl
          · rw [decide_eq_false hz]; show (_ || true) = true; exact Bool.or_true _
        · simp only [encF, if_pos hk, if_pos h24, if_neg hc]
          rfl
    · refine brt (cT q9 h24) ?_
      by_cases h0 : x.2.2.2.2.2 = 0
      · refine brf (cF q9 fun c => c h0) ?_
        have := renc_loop (fl := fl) (k := k) l hw hll (j :: r) e (i + 1) (acc ++ bts x) hr (by simp only [List.length_cons]; omega) (by simp [bts_len] at hl ⊢; omega)
        rw [show (acc ++ bts x).length = W.addN acc.length (W.len (bts x)) by unfold W.addN; rw [W.len_eq]; simp] at this
        refine Eq.trans this ?_
        simp only [encF, if_pos hk, if_neg h24, if_pos h0]
        cases encF (j :: r) with
        | none => rfl
        | some b => simp
      · refine brt (cT q9 h0) ?_
        simp only [encF, if_pos hk, if_neg h24, if_neg h0]
        rfl
theorem qlt {a : Int} : W.pick (W.lt a 1) true (W.gt a 4096) = true ↔ a < 1 ∨ 4096 < a := by simp only [W.pick_eq, W.lt_d, W.gt_d]; by_cases h : a < 1 <;> simp [h]
theorem renc_eq (l : List In6) (hw : ∀ x ∈ l, wOk x) (k : List Int × Int → Option R) : F_clevisref03Encode R l k = k (encC l) := by
  show N_clevisref03Encode F_clevisref01Imm F_clevisref03within F_clevisref03bytes W.big R l k = _
  unfold N_clevisref03Encode encC
  simp only [olI]
  by_cases h : l.length = 0 ∨ 4096 < l.length
  · rw [if_pos h]
    exact brt (cT qlt (by omega)) (Eq.refl _)
  rw [if_neg h]
  refine brf (cF qlt (by omega)) ?_
  obtain ⟨e, he⟩ := bigs (n := l.length + 1) (by omega)
  have := renc_loop (R := R) (fl := W.big) (k := k) l hw (by omega) l e 0 [] rfl (by omega) (by simp; omega)
  rw [show e + l.length + 1 = W.big by omega] at this
  refine Eq.trans this ?_
  cases encF l with
  | none => rfl
  | some b => simp

end Go.Proofs.YtdfelkcioeinfaaDoor

set_option linter.unusedVariables false
set_option linter.unusedSimpArgs false
set_option maxHeartbeats 4000000
set_option maxRecDepth 100000
namespace Go.Proofs.YtdfelkcioeinfaaDoor
open Go Go.Eng
variable {R : Type}
def I64 (z : Int) : Prop := -9223372036854775808 ≤ z ∧ z ≤ 9223372036854775807
theorem it_le {n : Int} (h : I64 n) : W.size (itoaS n) ≤ 21 := itoaS_size n h.1 h.2
theorem ut_le {n : Int} (h : 0 ≤ n ∧ n < 18446744073709551616) : W.size (utoaS n) ≤ 21 := by
  have := utoaS_size n.toNat (by omega)
  rw [Int.toNat_of_nonneg h.1] at this
  show (utoaS n).size ≤ 21
  omega
theorem it_eq (x : Int) (k : ByteArray → Option R) : F_strconv_Itoa_28 R x k = k (itoaS x) := rfl
theorem ut_eq (x : Int) (k : ByteArray → Option R) : F_strconv_FormatUint_29 R (x, 10) k = k (utoaS x) := rfl
theorem cz {a b : Nat} (h : a ≤ b) : W.leN a b = true := decide_eq_true h
noncomputable def txt (x : In6) : ByteArray := if x.1 = 24 then joinS [itoaS x.1, itoaS x.2.1, itoaS x.2.2.1, itoaS x.2.2.2.1, itoaS x.2.2.2.2.1, utoaS x.2.2.2.2.2] spc else joinS [itoaS x.1, itoaS x.2.1, itoaS x.2.2.1, itoaS x.2.2.2.1, itoaS x.2.2.2.2.1] spc
theorem t6 (a b c d e f : ByteArray) : (joinS [a, b, c, d, e, f] spc).data.toList = a.data.toList ++ (32 :: (b.data.toList ++ (32 :: (c.data.toList ++ (32 :: (d.data.toList ++ (32 :: (e.data.toList ++ (32 :: f.data.toList))))))))) := by
  rw [join_data]
  simp only [List.map_cons, List.map_nil, List.flatten_cons, List.flatten_nil, show spc.data.toList = [32] from rfl, List.append_assoc, List.cons_append, List.nil_append, List.append_nil]
theorem t5 (a b c d e : ByteArray) : (joinS [a, b, c, d, e] spc).data.toList = a.data.toList ++ (32 :: (b.data.toList ++ (32 :: (c.data.toList ++ (32 :: (d.data.toList ++ (32 :: e.data.toList))))))) := by
  rw [join_data]
  simp only [List.map_cons, List.map_nil, List.flatten_cons, List.flatten_nil, show spc.data.toList = [32] from rfl, List.append_assoc, List.cons_append, List.nil_append, List.append_nil]
theorem size_data {s : ByteArray} {n : Nat} (h : W.size s ≤ n) : s.data.toList.length ≤ n := by rw [← size_le]; exact h
theorem t6_le {a b c d e f : ByteArray} (h1 : W.size a ≤ 21) (h2 : W.size b ≤ 21) (h3 : W.size c ≤ 21) (h4 : W.size d ≤ 21) (h5 : W.size e ≤ 21) (h6 : W.size f ≤ 21) : W.size (joinS [a, b, c, d, e, f] spc) ≤ 281474976710656 := by
  rw [size_le, t6]
  have := size_data h1; have := size_data h2; have := size_data h3; have := size_data h4; have := size_data h5; have := size_data h6
  simp only [List.length_append, List.length_cons]
  omega
theorem t5_le {a b c d e : ByteArray} (h1 : W.size a ≤ 21) (h2 : W.size b ≤ 21) (h3 : W.size c ≤ 21) (h4 : W.size d ≤ 21) (h5 : W.size e ≤ 21) : W.size (joinS [a, b, c, d, e] spc) ≤ 281474976710656 := by
  rw [size_le, t5]
  have := size_data h1; have := size_data h2; have := size_data h3; have := size_data h4; have := size_data h5
  simp only [List.length_append, List.length_cons]
  omega
def txOk (x : In6) : Prop := I64 x.1 ∧ I64 x.2.1 ∧ I64 x.2.2.1 ∧ I64 x.2.2.2.1 ∧ I64 x.2.2.2.2.1 ∧ wOk x
theorem text_eq (x : In6) (h : txOk x) (k : ByteArray → Option R) : F_code_Text R (x.1, x.2.1, x.2.2.1, x.2.2.2.1, x.2.2.2.2.1, x.2.2.2.2.2) k = k (txt x) := by
  have e : F_code_Text R (x.1, x.2.1, x.2.2.1, x.2.2.2.1, x.2.2.2.2.1, x.2.2.2.2.2) k =
      br (W.eq x.1 24) (br (W.and2 (W.leN 6 140737488355328) (W.leN (W.size (joinS [itoaS x.1, itoaS x.2.1, itoaS x.2.2.1, itoaS x.2.2.2.1, itoaS x.2.2.2.2.1, utoaS x.2.2.2.2.2] spc)) 281474976710656)) (k (joinS [itoaS x.1, itoaS x.2.1, itoaS x.2.2.1, itoaS x.2.2.2.1, itoaS x.2.2.2.2.1, utoaS x.2.2.2.2.2] spc)) none)
        (br (W.and2 (W.leN 5 140737488355328) (W.leN (W.size (joinS [itoaS x.1, itoaS x.2.1, itoaS x.2.2.1, itoaS x.2.2.2.1, itoaS x.2.2.2.2.1] spc)) 281474976710656)) (k (joinS [itoaS x.1, itoaS x.2.1, itoaS x.2.2.1, itoaS x.2.2.2.1, itoaS x.2.2.2.2.1] spc)) none) := by kernel_rfl
  rw [e]
  obtain ⟨h1, h2, h3, h4, h5, h6⟩ := h
  unfold txt
  by_cases h24 : x.1 = 24
  · rw [if_pos h24]
    refine brt (cT q1 h24) (brt ?_ (Eq.refl _))
    rw [cz (t6_le (it_le h1) (it_le h2) (it_le h3) (it_le h4) (it_le h5) (ut_le h6))]; rfl
  · rw [if_neg h24]
    refine brf (cF q1 h24) (brt ?_ (Eq.refl _))
    rw [cz (t5_le (it_le h1) (it_le h2) (it_le h3) (it_le h4) (it_le h5))]; rfl
theorem rtext_eq (x : In6) (h : txOk x) (k : ByteArray → Option R) : F_clevisref03Text R (x.1, x.2.1, x.2.2.1, x.2.2.2.1, x.2.2.2.2.1, x.2.2.2.2.2) k = k (txt x) := by
  show N_clevisref03Text F_strconv_Itoa_28 F_strconv_FormatUint_29 R (x.1, x.2.1, x.2.2.1, x.2.2.2.1, x.2.2.2.2.1, x.2.2.2.2.2) k = _
  unfold N_clevisref03Text
  simp only [it_eq, ut_eq]
  obtain ⟨h1, h2, h3, h4, h5, h6⟩ := h
  have k1 := it_le h1
  have k2 := it_le h2
  have k3 := it_le h3
  have k4 := it_le h4
  have k5 := it_le h5
  have k6 := ut_le h6
  unfold txt
  have z1 : W.size (ByteArray.mk (Array.mk [UInt8.ofBitVec (BitVec.ofFin (Fin.mk 32 (Nat.mod_lt 32 (BitVec.ofNat._proof_1 8))))])) = 1 := rfl
  by_cases h24 : x.1 = 24
  · rw [if_pos h24, cT q1 h24]
    generalize itoaS x.1 = s1 at *
    generalize itoaS x.2.1 = s2 at *
    generalize itoaS x.2.2.1 = s3 at *
    generalize itoaS x.2.2.2.1 = s4 at *
    generalize itoaS x.2.2.2.2.1 = s5 at *
    iterate 8 refine brt (cz (by simp only [W.addN, cat_size, z1]; omega)) ?_
    refine brt (Eq.refl true) ?_
    refine brt (cz (by simp only [W.addN, cat_size, z1]; omega)) ?_
    refine (ut_eq _ _).trans ?_
    generalize utoaS x.2.2.2.2.2 = s6 at *
    refine brt (cz (by simp only [W.addN, cat_size, z1]; omega)) ?_
    refine congrArg k (ba_ext ?_)
    rw [t6]
    simp only [cat_data, show ((ByteArray.mk (Array.mk [UInt8.ofBitVec (BitVec.ofFin (Fin.mk 32 (Nat.mod_lt 32 (BitVec.ofNat._proof_1 8))))])) : ByteArray).data.toList = [32] from rfl, List.append_assoc, List.cons_append, List.nil_append]
    rfl
  · rw [if_neg h24, cF q1 h24]
    generalize itoaS x.1 = s1 at *
    generalize itoaS x.2.1 = s2 at *
    generalize itoaS x.2.2.1 = s3 at *
    generalize itoaS x.2.2.2.1 = s4 at *
    generalize itoaS x.2.2.2.2.1 = s5 at *
    iterate 8 refine brt (cz (by simp only [W.addN, cat_size, z1]; omega)) ?_
    refine brf (Eq.refl false) ?_
    refine congrArg k (ba_ext ?_)
    rw [t5]
    simp only [cat_data, show ((ByteArray.mk (Array.mk [UInt8.ofBitVec (BitVec.ofFin (Fin.mk 32 (Nat.mod_lt 32 (BitVec.ofNat._proof_1 8))))])) : ByteArray).data.toList = [32] from rfl, List.append_assoc, List.cons_append, List.nil_append]
    rfl
end Go.Proofs.YtdfelkcioeinfaaDoor


set_option linter.unusedVariables false
set_option linter.unusedSimpArgs false
set_option maxHeartbeats 4000000
set_option maxRecDepth 100000
namespace Go.Proofs.YtdfelkcioeinfaaDoor
open Go Go.Eng
theorem i64b {n : Int} (h : wfI .i64 n) : I64 n := ⟨(i64_lo h).1, by have := (i64_lo h).2; omega⟩
theorem ins_w {l : List In6} (h : WfT (.slice (.prod (.int .i64) (.prod (.int .i64) (.prod (.int .i64) (.prod (.int .i64) (.prod (.int .i64) (.int .u64))))))) l) : ∀ x ∈ l, wOk x := by
  intro x hx
  have := h.2 x hx
  exact u64_lo this.2.2.2.2.2
theorem ins_t {l : List In6} (h : WfT (.slice (.prod (.int .i64) (.prod (.int .i64) (.prod (.int .i64) (.prod (.int .i64) (.prod (.int .i64) (.int .u64))))))) l) : ∀ x ∈ l, txOk x := by
  intro x hx
  have := h.2 x hx
  exact ⟨i64b this.1, i64b this.2.1, i64b this.2.2.1, i64b this.2.2.2.1, i64b this.2.2.2.2.1, u64_lo this.2.2.2.2.2⟩
theorem enc_fine {l : List In6} (hw : ∀ x ∈ l, wOk x) : (encC l).1.length ≤ 140737488355328 ∧ BtOk (encC l).1 := by
  unfold encC
  split
  · exact ⟨Nat.zero_le _, fun i => by unfold bt; simp⟩
  · rename_i h0
    cases e : encF l with
    | none => exact ⟨Nat.zero_le _, fun i => by unfold bt; simp⟩
    | some r =>
      obtain ⟨d1, d2, _⟩ := enc_dec l r hw e
      exact ⟨by show r.length ≤ _; omega, d2⟩
theorem zi_t : txOk zi := by
  refine ⟨?_, ?_, ?_, ?_, ?_, ?_⟩ <;> (show _ ∧ _) <;> decide
theorem qr {a b c : Int} : W.pick (W.ge a b) (W.lt a c) false = true ↔ b ≤ a ∧ a < c := by simp only [W.pick_eq, W.ge_d, W.lt_d]; by_cases h : b ≤ a <;> simp [h]
theorem eqbs (a : Bool) : W.eqB a a = true := W.eqB_t.2 (Eq.refl a)
theorem CodeWrites_pure (x : PTs.D ps_clevislaw03CodeWrites) (hw : WfL ps_clevislaw03CodeWrites x) (hz : SzL ps_clevislaw03CodeWrites x) :
    L_clevislaw03CodeWrites F_code_Hole F_code_Text F_clevislaw03heads F_code_Encode F_clevisref03Encode F_clevisref01Same F_clevisref03Hole F_clevisref03Text x = some () := by
  obtain ⟨(l : List In6), (i : Int)⟩ := x
  have hwl : WfT (.slice (.prod (.int .i64) (.prod (.int .i64) (.prod (.int .i64) (.prod (.int .i64) (.prod (.int .i64) (.int .u64))))))) l := hw.1
  have ww := ins_w hwl
  have wt := ins_t hwl
  have hi : -9223372036854775808 ≤ i ∧ i < 9223372036854775808 := i64_lo hw.2
  have h0 : l.length * 48 ≤ 140737488351232 := hz.1.1
  obtain ⟨f1, f2⟩ := enc_fine ww
  unfold L_clevislaw03CodeWrites
  try dsimp only
  rw [enc_eq l ww]; (try dsimp only)
  rw [renc_eq l ww]; (try dsimp only)
  simp only [olI]
  by_cases h : 0 ≤ i ∧ i < (l.length : Int)
  · refine brt (cT qr h) (brt (cT q6 h) ?_)
    rw [same_eq _ _ f1 f1 f2 f2]; (try dsimp only)
    refine brt (by rw [decide_eq_true (Eq.refl _), eqs]; rfl) ?_
    rw [hole_eq _ _ (by omega)]; (try dsimp only)
    rw [rhole_eq _ _ (by omega) hi]; (try dsimp only)
    refine brt (eqbs _) ?_
    obtain ⟨n, rfl⟩ : ∃ n : Nat, i = n := ⟨i.toNat, by omega⟩
    have hn : n < l.length := by omega
    simp only [getz l n hn]
    have ht := wt _ (List.getElem_mem hn)
    rw [text_eq _ ht]; (try dsimp only)
    rw [rtext_eq _ ht]; (try dsimp only)
    refine brt (eqS_refl _) ?_
    rw [heads_eq]; rfl
  · refine brf (cF qr h) ?_
    rw [same_eq _ _ f1 f1 f2 f2]; (try dsimp only)
    refine brt (by rw [decide_eq_true (Eq.refl _), eqs]; rfl) ?_
    rw [hole_eq _ _ (by omega)]; (try dsimp only)
    rw [rhole_eq _ _ (by omega) hi]; (try dsimp only)
    refine brt (eqbs _) ?_
    refine (text_eq zi zi_t _).trans ?_
    refine (rtext_eq zi zi_t _).trans ?_
    refine brt (eqS_refl _) ?_
    rw [heads_eq]; rfl
theorem CodeWrites_law (x : PTs.D ps_clevislaw03CodeWrites) (hw : WfL ps_clevislaw03CodeWrites x) (hz : SzL ps_clevislaw03CodeWrites x) :
    ∃ (C : Cfg) (fl d : Nat), CfgOk C ∧ C.P = Tryd.prog ∧ call C fl d 6 (encL false ps_clevislaw03CodeWrites x) [] getL = some () :=
  E_clevislaw03CodeWrites ok_code_Hole ok_code_Text ok_clevislaw03heads ok_code_Encode ok_clevisref03Encode ok_clevisref01Same ok_clevisref03Hole ok_clevisref03Text x (CodeWrites_pure x hw hz)
end Go.Proofs.YtdfelkcioeinfaaDoor
