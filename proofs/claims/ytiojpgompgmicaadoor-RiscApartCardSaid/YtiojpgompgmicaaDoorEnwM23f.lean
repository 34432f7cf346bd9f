import Derived.Test.YtiojpgompgmicaaDoorEnwM23e
set_option linter.unusedVariables false
set_option linter.unusedSimpArgs false
set_option maxHeartbeats 8000000
set_option maxRecDepth 100000
namespace Go.Proofs.YtiojpgompgmicaaDoor
open Go Go.Eng
open Classical
variable {R : Type}
def I64 (z : Int) : Prop := -9223372036854775808 ≤ z ∧ z ≤ 9223372036854775807
theorem it_le {n : Int} (h : I64 n) : W.size (itoaS n) ≤ 21 := itoaS_size n h.1 h.2
theorem it_eq (x : Int) (k : ByteArray → Option R) : F_strconv_Itoa_26 R x k = k (itoaS x) := rfl
theorem b1_64 (w : Bool) : I64 (b1 w) := by cases w <;> exact ⟨by decide, by decide⟩
theorem cz {a b : Nat} (h : a ≤ b) : W.leN a b = true := decide_eq_true h
def spc : ByteArray := (ByteArray.mk (Array.mk [UInt8.ofBitVec (BitVec.ofFin (Fin.mk 32 (Nat.mod_lt 32 (BitVec.ofNat._proof_1 8))))]))
noncomputable def txt (op D A B Fn : Int) (Wd : Bool) (Pt Im : Int) : ByteArray := joinS [itoaS op, itoaS D, itoaS A, itoaS B, itoaS Fn, itoaS (b1 Wd), itoaS Pt, itoaS Im] spc
theorem txt_data (a b c d e f g h : ByteArray) : (joinS [a, b, c, d, e, f, g, h] spc).data.toList = a.data.toList ++ (32 :: (b.data.toList ++ (32 :: (c.data.toList ++ (32 :: (d.data.toList ++ (32 :: (e.data.toList ++ (32 :: (f.data.toList ++ (32 :: (g.data.toList ++ (32 :: h.data.toList))))))))))))) := by
  rw [join_data]
  simp only [List.map_cons, List.map_nil, List.flatten_cons, List.flatten_nil, show spc.data.toList = [32] from rfl, List.append_assoc, List.cons_append, List.nil_append, List.append_nil]
theorem size_data {s : ByteArray} {n : Nat} (h : W.size s ≤ n) : s.data.toList.length ≤ n := by rw [← size_le]; exact h
theorem txt_le {a b c d e f g h : ByteArray} (h1 : W.size a ≤ 21) (h2 : W.size b ≤ 21) (h3 : W.size c ≤ 21) (h4 : W.size d ≤ 21) (h5 : W.size e ≤ 21) (h6 : W.size f ≤ 21) (h7 : W.size g ≤ 21) (h8 : W.size h ≤ 21) : W.size (joinS [a, b, c, d, e, f, g, h] spc) ≤ 281474976710656 := by
  rw [size_le, txt_data]
  have := size_data h1; have := size_data h2; have := size_data h3; have := size_data h4; have := size_data h5; have := size_data h6; have := size_data h7; have := size_data h8
  simp only [List.length_append, List.length_cons]
  omega
theorem text_eq (op D A B Fn : Int) (Wd : Bool) (Pt Im : Int) (h : I64 op ∧ I64 D ∧ I64 A ∧ I64 B ∧ I64 Fn ∧ I64 Pt ∧ I64 Im) (k : ByteArray → Option R) : F_risc_Text R (op, D, A, B, Fn, Wd, Pt, Im) k = k (txt op D A B Fn Wd Pt Im) := by
  have e : F_risc_Text R (op, D, A, B, Fn, Wd, Pt, Im) k = br (W.and2 (W.leN 8 140737488355328) (W.leN (W.size (txt op D A B Fn Wd Pt Im)) 281474976710656)) (k (txt op D A B Fn Wd Pt Im)) none := by
    cases Wd <;> kernel_rfl
  rw [e]
  refine brt ?_ (Eq.refl _)
  have := txt_le (it_le h.1) (it_le h.2.1) (it_le h.2.2.1) (it_le h.2.2.2.1) (it_le h.2.2.2.2.1) (it_le (b1_64 Wd)) (it_le h.2.2.2.2.2.1) (it_le h.2.2.2.2.2.2)
  have h2 : W.leN (W.size (txt op D A B Fn Wd Pt Im)) 281474976710656 = true := cz this
  rw [h2]; rfl
theorem wb1 (w : Bool) : W.wrap .i64 (b1 w) = b1 w := by cases w <;> decide
theorem rtext_eq (op D A B Fn : Int) (Wd : Bool) (Pt Im : Int) (h : I64 op ∧ I64 D ∧ I64 A ∧ I64 B ∧ I64 Fn ∧ I64 Pt ∧ I64 Im) (k : ByteArray → Option R) : F_clevisref23Text R (op, D, A, B, Fn, Wd, Pt, Im) k = k (txt op D A B Fn Wd Pt Im) := by
  show N_clevisref23Text F_clevisref23bit F_strconv_Itoa_26 R (op, D, A, B, Fn, Wd, Pt, Im) k = _
  unfold N_clevisref23Text
  simp only [bit_eq, it_eq, wb1, W.get, List.getD_cons_zero, List.getD_cons_succ]
  have h1 := it_le h.1
  have h2 := it_le h.2.1
  have h3 := it_le h.2.2.1
  have h4 := it_le h.2.2.2.1
  have h5 := it_le h.2.2.2.2.1
  have h6 := it_le (b1_64 Wd)
  have h7 := it_le h.2.2.2.2.2.1
  have h8 := it_le h.2.2.2.2.2.2
  unfold txt
  generalize itoaS op = s1 at *
  generalize itoaS D = s2 at *
  generalize itoaS A = s3 at *
  generalize itoaS B = s4 at *
  generalize itoaS Fn = s5 at *
  generalize itoaS (b1 Wd) = s6 at *
  generalize itoaS Pt = s7 at *
  generalize itoaS Im = s8 at *
  have z0 : W.size (ByteArray.mk (Array.mk [])) = 0 := rfl
  have z1 : W.size (ByteArray.mk (Array.mk [UInt8.ofBitVec (BitVec.ofFin (Fin.mk 32 (Nat.mod_lt 32 (BitVec.ofNat._proof_1 8))))])) = 1 := rfl
  iterate 15 refine brt (cz (by simp only [W.addN, cat_size, z0, z1]; omega)) ?_
  refine congrArg k (ba_ext ?_)
  rw [txt_data]
  simp only [cat_data, show ((ByteArray.mk (Array.mk [UInt8.ofBitVec (BitVec.ofFin (Fin.mk 32 (Nat.mod_lt 32 (BitVec.ofNat._proof_1 8))))])) : ByteArray).data.toList = [32] from rfl, show (ByteArray.mk (Array.mk [])).data.toList = [] from rfl, List.append_assoc, List.cons_append, List.nil_append]
  rfl
theorem sign_16 {w : Int} (hw : 0 ≤ w ∧ w < 4294967296) (k : Int → Option R) : F_clevisref23sign R (w, 16) k = k (sx 65536 w) := by
  have e : F_clevisref23sign R (w, 16) k = br (W.ge (W.wrap .i64 (W.and .i64 (W.wrap .i64 w) 65535)) 32768) (k (W.wrap .i64 (W.sub (W.wrap .i64 (W.and .i64 (W.wrap .i64 w) 65535)) 65536))) (k (W.wrap .i64 (W.and .i64 (W.wrap .i64 w) 65535))) := by kernel_rfl
  have e2 : W.wrap .i64 (W.and .i64 (W.wrap .i64 w) 65535) = w % 65536 := by
    have e0 : W.wrap .i64 w = w := W.wi64_id (by omega) (by omega)
    rw [e0, show W.and .i64 w 65535 = w % 65536 from (W.and_mask w 16 (by omega) 65535 (by decide)).trans (by rw [show (2 : Int) ^ 16 = 65536 by decide]), W.wi64_id (by omega) (by omega)]
  rw [e, e2]
  by_cases h : 32768 ≤ w % 65536
  · refine brt (cT q4 h) ?_
    rw [sx_hi (by omega), W.sub_eq, W.wi64_id (show -9223372036854775808 ≤ w % 65536 - 65536 by omega) (by omega)]
  · refine brf (cF q4 h) ?_
    rw [sx_lo (by omega)]
theorem sign_11 {w : Int} (hw : 0 ≤ w ∧ w < 4294967296) (k : Int → Option R) : F_clevisref23sign R (w, 11) k = k (sx 2048 w) := by
  have e : F_clevisref23sign R (w, 11) k = br (W.ge (W.wrap .i64 (W.and .i64 (W.wrap .i64 w) 2047)) 1024) (k (W.wrap .i64 (W.sub (W.wrap .i64 (W.and .i64 (W.wrap .i64 w) 2047)) 2048))) (k (W.wrap .i64 (W.and .i64 (W.wrap .i64 w) 2047))) := by kernel_rfl
  have e2 : W.wrap .i64 (W.and .i64 (W.wrap .i64 w) 2047) = w % 2048 := by
    have e0 : W.wrap .i64 w = w := W.wi64_id (by omega) (by omega)
    rw [e0, show W.and .i64 w 2047 = w % 2048 from (W.and_mask w 11 (by omega) 2047 (by decide)).trans (by rw [show (2 : Int) ^ 11 = 2048 by decide]), W.wi64_id (by omega) (by omega)]
  rw [e, e2]
  by_cases h : 1024 ≤ w % 2048
  · refine brt (cT q4 h) ?_
    rw [sx_hi (by omega), W.sub_eq, W.wi64_id (show -9223372036854775808 ≤ w % 2048 - 2048 by omega) (by omega)]
  · refine brf (cF q4 h) ?_
    rw [sx_lo (by omega)]
theorem sign_26 {w : Int} (hw : 0 ≤ w ∧ w < 4294967296) (k : Int → Option R) : F_clevisref23sign R (w, 26) k = k (sx 67108864 w) := by
  have e : F_clevisref23sign R (w, 26) k = br (W.ge (W.wrap .i64 (W.and .i64 (W.wrap .i64 w) 67108863)) 33554432) (k (W.wrap .i64 (W.sub (W.wrap .i64 (W.and .i64 (W.wrap .i64 w) 67108863)) 67108864))) (k (W.wrap .i64 (W.and .i64 (W.wrap .i64 w) 67108863))) := by kernel_rfl
  have e2 : W.wrap .i64 (W.and .i64 (W.wrap .i64 w) 67108863) = w % 67108864 := by
    have e0 : W.wrap .i64 w = w := W.wi64_id (by omega) (by omega)
    rw [e0, show W.and .i64 w 67108863 = w % 67108864 from (W.and_mask w 26 (by omega) 67108863 (by decide)).trans (by rw [show (2 : Int) ^ 26 = 67108864 by decide]), W.wi64_id (by omega) (by omega)]
  rw [e, e2]
  by_cases h : 33554432 ≤ w % 67108864
  · refine brt (cT q4 h) ?_
    rw [sx_hi (by omega), W.sub_eq, W.wi64_id (show -9223372036854775808 ≤ w % 67108864 - 67108864 by omega) (by omega)]
  · refine brf (cF q4 h) ?_
    rw [sx_lo (by omega)]
theorem sx_mod {v : Int} : sx 65536 v % 65536 = v % 65536 := by unfold sx; split <;> omega
theorem rdec_eq (w : Int) (hw : 0 ≤ w ∧ w < 4294967296) (k : RI × Int → Option R) : F_clevisref23Decode R w k = k (readR w) := by
  show N_clevisref23Decode F_clevisref23conds F_clevisref23Encode F_clevisref23sign R w k = _
  unfold N_clevisref23Decode
  simp only [hop hw, fs_21_31 hw, fs_16_31 hw, fs_11_31 hw, fs_6_15 hw, fs_19_3 hw, fs_12_15 hw, fu_10_1 hw, fu_11_1 hw, fm0_65535, fm0_67108863, sign_16 hw, sign_11 hw, sign_26 hw, conds_eq]
  by_cases h1 : w / 67108864 = 1
  · refine brt (cT q1 h1) (rleaf (Or.inl ?_))
    unfold rawR; rw [if_pos h1]
    rw [W.eq_d, W.mul_eq, W.wi64_id (show -9223372036854775808 ≤ w / 64 % 16 * 16 by omega) (by omega), Int.mul_comm]
  refine brf (cF q1 h1) ?_
  by_cases h2 : w / 67108864 = 2 ∨ w / 67108864 = 3
  · refine brt (cT q2 h2) (rleaf (Or.inl ?_))
    unfold rawR; rw [if_neg h1, if_pos h2]
  refine brf (cF q2 h2) ?_
  by_cases hq : 4 ≤ w / 67108864 ∧ w / 67108864 < 20
  · refine brt (cT q3 hq) (rleaf ?_)
    by_cases h3 : 4 ≤ w / 67108864 ∧ w / 67108864 < 12
    · left
      unfold rawR; rw [if_neg h1, if_neg h2, if_pos h3]
    · have h4 : 12 ≤ w / 67108864 ∧ w / 67108864 < 20 := by omega
      by_cases hd : w / 2097152 % 32 = 0
      · left
        unfold rawR; rw [if_neg h1, if_neg h2, if_neg h3, if_pos h4]
        rw [hd]
      · right
        refine ⟨?_, ?_⟩
        · rintro (⟨e, -⟩ | ⟨e, -⟩ | ⟨e, -⟩ | ⟨e, d, -⟩ | ⟨e, -⟩ | ⟨e, -⟩ | ⟨e, -⟩ | ⟨e, -⟩ | ⟨e, -⟩ | ⟨e, -⟩) <;> omega
        · unfold rawR; rw [if_neg h1, if_neg h2, if_neg h3, if_pos h4]
          simp only [encI, if_neg h1, if_neg h2, if_neg h3, if_pos h4]
          rw [sx_mod]
          omega
  refine brf (cF q3 hq) ?_
  have h3 : ¬ (4 ≤ w / 67108864 ∧ w / 67108864 < 12) := by omega
  have h4 : ¬ (12 ≤ w / 67108864 ∧ w / 67108864 < 20) := by omega
  have e11 : W.ofNat (W.len ([16, 32, 48, 64, 80, 96, 112, 160, 176, 192, 208] : List Int)) = 11 := rfl
  by_cases h5 : w / 67108864 = 20
  · refine brt (cT q1 h5) ?_
    by_cases hi : 11 ≤ w / 4096 % 16
    · refine brt (cT q4 hi) (congrArg k ?_)
      have hr : ¬ okR (rawR w) := by
        unfold rawR; rw [if_neg h1, if_neg h2, if_neg h3, if_neg h4, if_pos h5]
        rw [cdn_no (i := w / 4096 % 16) (by omega)]
        rintro (⟨e, -⟩ | ⟨e, -⟩ | ⟨e, -⟩ | ⟨e, d, -⟩ | ⟨e, _, _, _, d, -⟩ | ⟨e, -⟩ | ⟨e, -⟩ | ⟨e, -⟩ | ⟨e, -⟩ | ⟨e, -⟩)
        case inr.inr.inr.inr.inl => exact absurd d (by decide)
        all_goals omega
      unfold readR
      rw [if_neg (fun c => hr c.1)]
      rfl
    · refine brf (cF q4 hi) (brt (cT q6 ⟨by omega, by show w / 4096 % 16 < 11; omega⟩) (rleaf (Or.inl ?_)))
      unfold rawR; rw [if_neg h1, if_neg h2, if_neg h3, if_neg h4, if_pos h5]
      rw [get_cdn (by omega) (by omega), W.eq_d]
  refine brf (cF q1 h5) ?_
  by_cases h6 : w / 67108864 = 21
  · refine brt (cT q1 h6) (rleaf (Or.inl ?_))
    unfold rawR; rw [if_neg h1, if_neg h2, if_neg h3, if_neg h4, if_neg h5, if_pos h6]
  refine brf (cF q1 h6) ?_
  by_cases h7 : w / 67108864 = 22
  · refine brt (cT q1 h7) (rleaf (Or.inl ?_))
    unfold rawR; rw [if_neg h1, if_neg h2, if_neg h3, if_neg h4, if_neg h5, if_neg h6, if_pos h7]
  refine brf (cF q1 h7) ?_
  by_cases h8 : w / 67108864 = 24 ∨ w / 67108864 = 25
  · refine brt (cT q2 h8) (rleaf (Or.inl ?_))
    unfold rawR; rw [if_neg h1, if_neg h2, if_neg h3, if_neg h4, if_neg h5, if_neg h6, if_neg h7, if_pos h8]
  refine brf (cF q2 h8) ?_
  by_cases h9 : w / 67108864 = 26 ∨ w / 67108864 = 27
  · refine brt (cT q2 h9) (rleaf (Or.inl ?_))
    unfold rawR; rw [if_neg h1, if_neg h2, if_neg h3, if_neg h4, if_neg h5, if_neg h6, if_neg h7, if_neg h8, if_pos h9]
  refine brf (cF q2 h9) (rleaf (Or.inl ?_))
  unfold rawR; rw [if_neg h1, if_neg h2, if_neg h3, if_neg h4, if_neg h5, if_neg h6, if_neg h7, if_neg h8, if_neg h9]
theorem ok_23 : okR (23, 0, 0, 0, 0, false, 0, 0) := by simp [okR]
theorem ok_2 : okR (2, 8, 0, 0, 0, false, 0, 5) := by simp [okR]
theorem no_40 : ¬ okR (40, 0, 0, 0, 0, false, 0, 0) := by simp [okR]
theorem no_0 : ¬ okR (rawR 0) := by
  have e : rawR 0 = (0, 0, 0, 0, 0, false, 0, 0) := by simp [rawR]
  rw [e]; simp [okR]
theorem d8 : itoaS 8 = ⟨#[56]⟩ := by
  unfold itoaS Lib.itoa; rw [if_neg (by decide), show (8 : Int).toNat = 8 from rfl, Lib.decDigits_one (by decide)]; rfl
theorem d2 : itoaS 2 = ⟨#[50]⟩ := by
  unfold itoaS Lib.itoa; rw [if_neg (by decide), show (2 : Int).toNat = 2 from rfl, Lib.decDigits_one (by decide)]; rfl
theorem d0 : itoaS 0 = ⟨#[48]⟩ := by
  unfold itoaS Lib.itoa; rw [if_neg (by decide), show (0 : Int).toNat = 0 from rfl, Lib.decDigits_one (by decide)]; rfl
theorem d5 : itoaS 5 = ⟨#[53]⟩ := by
  unfold itoaS Lib.itoa; rw [if_neg (by decide), show (5 : Int).toNat = 5 from rfl, Lib.decDigits_one (by decide)]; rfl
theorem txt_h : txt 2 8 0 0 0 false 0 5 = (ByteArray.mk (Array.mk [UInt8.ofBitVec (BitVec.ofFin (Fin.mk 50 (Nat.mod_lt 50 (BitVec.ofNat._proof_1 8)))), UInt8.ofBitVec (BitVec.ofFin (Fin.mk 32 (Nat.mod_lt 32 (BitVec.ofNat._proof_1 8)))), UInt8.ofBitVec (BitVec.ofFin (Fin.mk 56 (Nat.mod_lt 56 (BitVec.ofNat._proof_1 8)))), UInt8.ofBitVec (BitVec.ofFin (Fin.mk 32 (Nat.mod_lt 32 (BitVec.ofNat._proof_1 8)))), UInt8.ofBitVec (BitVec.ofFin (Fin.mk 48 (Nat.mod_lt 48 (BitVec.ofNat._proof_1 8)))), UInt8.ofBitVec (BitVec.ofFin (Fin.mk 32 (Nat.mod_lt 32 (BitVec.ofNat._proof_1 8)))), UInt8.ofBitVec (BitVec.ofFin (Fin.mk 48 (Nat.mod_lt 48 (BitVec.ofNat._proof_1 8)))), UInt8.ofBitVec (BitVec.ofFin (Fin.mk 32 (Nat.mod_lt 32 (BitVec.ofNat._proof_1 8)))), UInt8.ofBitVec (BitVec.ofFin (Fin.mk 48 (Nat.mod_lt 48 (BitVec.ofNat._proof_1 8)))), UInt8.ofBitVec (BitVec.ofFin (Fin.mk 32 (Nat.mod_lt 32 (BitVec.ofNat._proof_1 8)))), UInt8.ofBitVec (BitVec.ofFin (Fin.mk 48 (Nat.mod_lt 48 (BitVec.ofNat._proof_1 8)))), UInt8.ofBitVec (BitVec.ofFin (Fin.mk 32 (Nat.mod_lt 32 (BitVec.ofNat._proof_1 8)))), UInt8.ofBitVec (BitVec.ofFin (Fin.mk 48 (Nat.mod_lt 48 (BitVec.ofNat._proof_1 8)))), UInt8.ofBitVec (BitVec.ofFin (Fin.mk 32 (Nat.mod_lt 32 (BitVec.ofNat._proof_1 8)))), UInt8.ofBitVec (BitVec.ofFin (Fin.mk 53 (Nat.mod_lt 53 (BitVec.ofNat._proof_1 8))))])) := by
  refine ba_ext ?_
  unfold txt
  rw [txt_data, show b1 false = 0 from rfl, d2, d8, d0, d5]
  rfl
theorem heads_eq (k : Bool → Option R) : F_clevislaw23heads R () k = k true := by
  show N_clevislaw23heads F_risc_Encode F_risc_Text F_risc_Decode R () k = _
  unfold N_clevislaw23heads
  have e1 : wordR (23, 0, 0, 0, 0, false, 0, 0) = (1543503872, 0) := if_pos ok_23
  have e2 : wordR (2, 8, 0, 0, 0, false, 0, 5) = (150994949, 0) := if_pos ok_2
  have e3 : wordR (40, 0, 0, 0, 0, false, 0, 0) = (0, 2) := if_neg no_40
  have e4 : readR 0 = (zeroR, 230) := if_neg (fun c => no_0 c.1)
  have e5 : readR 150994949 = ((2, 8, 0, 0, 0, false, 0, 5), 0) := read_word ok_2
  rw [enc_eq, e1]; dsimp only
  rw [enc_eq, e2]; dsimp only
  rw [enc_eq, e3]; dsimp only
  rw [dec_eq 0 (by omega), e4]; dsimp only
  rw [dec_eq 150994949 (by omega), e5]; dsimp only
  refine brt (by decide) ?_
  rw [text_eq 2 8 0 0 0 false 0 5 (by unfold I64; omega), txt_h]
  refine congrArg k ?_
  rw [eqS_refl]; rfl
end Go.Proofs.YtiojpgompgmicaaDoor
