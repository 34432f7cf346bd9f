import Derived.Test.YtdfelkcioeinfaaDoorEnwW08
/- Instructions written as bytes, in plain numbers, and that reading and writing undo each other. -/
set_option linter.unusedVariables false
set_option linter.unusedSimpArgs false
set_option maxHeartbeats 4000000
set_option maxRecDepth 100000
namespace Go.Eng
open Go
/-- What an instruction's parts may be. -/
def okI (x : In6) : Prop := (0 ≤ x.1 ∧ x.1 ≤ 255) ∧ (0 ≤ x.2.1 ∧ x.2.1 ≤ 15) ∧ (0 ≤ x.2.2.1 ∧ x.2.2.1 ≤ 15) ∧ (-32768 ≤ x.2.2.2.1 ∧ x.2.2.2.1 ≤ 32767) ∧ (-2147483648 ≤ x.2.2.2.2.1 ∧ x.2.2.2.2.1 ≤ 2147483647)
instance (x : In6) : Decidable (okI x) := by unfold okI; infer_instance
def bts (x : In6) : List Int := [x.1, x.2.1 + 16 * x.2.2.1] ++ bytesN (W.wrap .u64 x.2.2.2.1) 2 ++ bytesN (W.wrap .u64 x.2.2.2.2.1) 4
/-- A wide instruction's second half. -/
def half (x : In6) : In6 := (0, 0, 0, 0, x.2.2.2.2.2 / 4294967296, 0)
def encF : List In6 → Option (List Int)
  | [] => some []
  | [x] => if okI x ∧ x.1 ≠ 24 ∧ x.2.2.2.2.2 = 0 then some (bts x) else none
  | x :: j :: r =>
    if okI x then
      if x.1 = 24 then (if j = zi ∧ u32i x.2.2.2.2.1 = x.2.2.2.2.2 % 4294967296 then (encF r).map fun b => bts x ++ bts (half x) ++ b else none)
      else if x.2.2.2.2.2 = 0 then (encF (j :: r)).map fun b => bts x ++ b else none
    else none
def encC (l : List In6) : List Int × Int := if l.length = 0 ∨ 4096 < l.length then ([], 2) else match encF l with | none => ([], 2) | some b => (b, 0)
theorem by2 (x : Int) : bytesN x 2 = [x % 256, x / 256 % 256] := by
  show [by8 x 0, by8 x 1] = _
  unfold by8; simp
theorem by4 (x : Int) : bytesN x 4 = [x % 256, x / 256 % 256, x / 65536 % 256, x / 16777216 % 256] := by
  show [by8 x 0, by8 x 1, by8 x 2, by8 x 3] = _
  unfold by8; simp
theorem hg2 (a b : Int) : hg [a, b] 8 = a + 256 * b := by simp [hg, bt]; omega
theorem hg4 (a b c d : Int) : hg [a, b, c, d] 8 = a + 256 * b + 65536 * c + 16777216 * d := by simp [hg, bt]; omega
theorem rd8 (a b c d e f g h : Int) : rd [a, b, c, d, e, f, g, h] = (a, b % 16, b / 16, W.wrap .i64 (W.wrap .i16 (c + 256 * d)), W.wrap .i64 (W.wrap .i32 (e + 256 * f + 65536 * g + 16777216 * h)), 0) := by
  rw [← hg2, ← hg4]; rfl
theorem bts8 (x : In6) : bts x = [x.1, x.2.1 + 16 * x.2.2.1, W.wrap .u64 x.2.2.2.1 % 256, W.wrap .u64 x.2.2.2.1 / 256 % 256, W.wrap .u64 x.2.2.2.2.1 % 256, W.wrap .u64 x.2.2.2.2.1 / 256 % 256, W.wrap .u64 x.2.2.2.2.1 / 65536 % 256, W.wrap .u64 x.2.2.2.2.1 / 16777216 % 256] := by
  unfold bts; rw [by2, by4]; rfl
theorem bts_len (x : In6) : (bts x).length = 8 := by rw [bts8]; rfl
theorem rd_bts {x : In6} (h : okI x) : rd (bts x) = (x.1, x.2.1, x.2.2.1, x.2.2.2.1, x.2.2.2.2.1, 0) := by
  obtain ⟨(op : Int), (d : Int), (s : Int), (o : Int), (i : Int), (w : Int)⟩ := x
  obtain ⟨h1, h2, h3, h4, h5⟩ := h
  simp only at h1 h2 h3 h4 h5
  rw [bts8, rd8]
  simp only
  rw [W.wu64, W.wu64]
  refine Prod.ext rfl (Prod.ext ?_ (Prod.ext ?_ (Prod.ext ?_ (Prod.ext ?_ rfl))))
  · show (d + 16 * s) % 16 = d; omega
  · show (d + 16 * s) / 16 = s; omega
  · show W.wrap .i64 (W.wrap .i16 _) = o
    rw [W.wi16, W.wi64_id (by split <;> omega) (by split <;> omega)]
    split <;> omega
  · show W.wrap .i64 (W.wrap .i32 _) = i
    rw [W.wi32, W.wi64_id (by split <;> omega) (by split <;> omega)]
    split <;> omega
theorem u32i_of (a : Int) : u32i a = a % 4294967296 := by
  unfold u32i low
  rw [if_neg (by decide), W.wi32, W.wu64]
  split <;> omega
theorem bts_byte {x : In6} (h : okI x) : BtOk (bts x) := by
  obtain ⟨(op : Int), (d : Int), (s : Int), (o : Int), (i : Int), (w : Int)⟩ := x
  obtain ⟨h1, h2, h3, h4, h5⟩ := h
  simp only at h1 h2 h3 h4 h5
  rw [bts8]
  simp only
  intro j
  unfold bt
  rw [W.wu64, W.wu64]
  match j with
  | 0 => simp; omega
  | 1 => simp; omega
  | 2 => simp; omega
  | 3 => simp; omega
  | 4 => simp; omega
  | 5 => simp; omega
  | 6 => simp; omega
  | 7 => simp; omega
  | j + 8 => simp
theorem half_ok {x : In6} (h : 0 ≤ x.2.2.2.2.2 ∧ x.2.2.2.2.2 < 18446744073709551616) : rd (bts (half x)) = (0, 0, 0, 0, W.wrap .i64 (W.wrap .i32 (x.2.2.2.2.2 / 4294967296)), 0) ∧ BtOk (bts (half x)) := by
  obtain ⟨(op : Int), (d : Int), (s : Int), (o : Int), (i : Int), (w : Int)⟩ := x
  simp only at h
  rw [bts8]
  unfold half
  simp only
  rw [W.wu64_id (show 0 ≤ w / 4294967296 by omega) (by omega), W.wu64_id (show (0 : Int) ≤ 0 by omega) (by omega)]
  refine ⟨?_, ?_⟩
  · rw [rd8]
    refine Prod.ext rfl (Prod.ext rfl (Prod.ext rfl (Prod.ext rfl (Prod.ext ?_ rfl))))
    show W.wrap .i64 (W.wrap .i32 _) = _
    congr 2; omega
  · intro j
    unfold bt
    match j with
    | 0 => simp
    | 1 => simp
    | 2 => simp
    | 3 => simp
    | 4 => simp; omega
    | 5 => simp; omega
    | 6 => simp; omega
    | 7 => simp; omega
    | j + 8 => simp
theorem eight {l : List Int} (h : l.length = 8) : ∃ a b c d e f g i, l = [a, b, c, d, e, f, g, i] := by
  match l, h with
  | [a, b, c, d, e, f, g, i], _ => exact ⟨a, b, c, d, e, f, g, i, rfl⟩
theorem rd_ok {l : List Int} (h : BtOk l) (h8 : l.length = 8) : okI (rd l) ∧ bts (rd l) = l := by
  obtain ⟨a, b, c, d, e, f, g, i, rfl⟩ := eight h8
  have k0 : 0 ≤ a ∧ a < 256 := h 0
  have k1 : 0 ≤ b ∧ b < 256 := h 1
  have k2 : 0 ≤ c ∧ c < 256 := h 2
  have k3 : 0 ≤ d ∧ d < 256 := h 3
  have k4 : 0 ≤ e ∧ e < 256 := h 4
  have k5 : 0 ≤ f ∧ f < 256 := h 5
  have k6 : 0 ≤ g ∧ g < 256 := h 6
  have k7 : 0 ≤ i ∧ i < 256 := h 7
  rw [rd8, bts8]
  have e1 : W.wrap .i64 (W.wrap .i16 (c + 256 * d)) = if c + 256 * d < 32768 then c + 256 * d else c + 256 * d - 65536 := by
    rw [W.wi16, W.wi64_id (by split <;> omega) (by split <;> omega)]; split <;> split <;> omega
  have e2 : W.wrap .i64 (W.wrap .i32 (e + 256 * f + 65536 * g + 16777216 * i)) = if e + 256 * f + 65536 * g + 16777216 * i < 2147483648 then e + 256 * f + 65536 * g + 16777216 * i else e + 256 * f + 65536 * g + 16777216 * i - 4294967296 := by
    rw [W.wi32, W.wi64_id (by split <;> omega) (by split <;> omega)]; split <;> split <;> omega
  rw [e1, e2]
  generalize hO : (if c + 256 * d < 32768 then c + 256 * d else c + 256 * d - 65536) = o
  generalize hI : (if e + 256 * f + 65536 * g + 16777216 * i < 2147483648 then e + 256 * f + 65536 * g + 16777216 * i else e + 256 * f + 65536 * g + 16777216 * i - 4294967296) = m
  have ho : -32768 ≤ o ∧ o ≤ 32767 ∧ o % 65536 = c + 256 * d := by subst hO; split <;> omega
  have hm : -2147483648 ≤ m ∧ m ≤ 2147483647 ∧ m % 4294967296 = e + 256 * f + 65536 * g + 16777216 * i := by subst hI; split <;> omega
  refine ⟨⟨⟨by simp only; omega, by simp only; omega⟩, ⟨by simp only; omega, by simp only; omega⟩, ⟨by simp only; omega, by simp only; omega⟩, ⟨by simp only; omega, by simp only; omega⟩, ⟨by simp only; omega, by simp only; omega⟩⟩, ?_⟩
  simp only
  rw [W.wu64, W.wu64]
  simp only [List.cons.injEq, and_true, true_and]
  refine ⟨?_, ?_, ?_, ?_, ?_, ?_, ?_⟩ <;> omega
theorem take8 {x : In6} (r : List Int) : (bts x ++ r).take 8 = bts x := by rw [List.take_append_of_le_length (Nat.le_of_eq (bts_len x).symm), List.take_of_length_le (Nat.le_of_eq (bts_len x))]
theorem drop8 {x : In6} (r : List Int) : (bts x ++ r).drop 8 = r := by rw [List.drop_append_of_le_length (Nat.le_of_eq (bts_len x).symm), List.drop_of_length_le (Nat.le_of_eq (bts_len x))]; rfl
theorem btok_app {a b : List Int} (ha : BtOk a) (hb : BtOk b) : BtOk (a ++ b) := by
  intro i
  have e : bt (a ++ b) i = if i < a.length then bt a i else bt b (i - a.length) := by
    unfold bt
    simp only [List.getD_eq_getElem?_getD]
    split
    · rename_i h; rw [List.getElem?_append_left h]
    · rename_i h; rw [List.getElem?_append_right (by omega)]
  rw [e]; split
  · exact ha _
  · exact hb _
theorem u32_s32 {v : Int} (h : 0 ≤ v ∧ v < 4294967296) : u32i (W.wrap .i64 (W.wrap .i32 v)) = v := by
  rw [u32i_of, W.wi32, W.wi64_id (by split <;> omega) (by split <;> omega)]
  split <;> omega
def wOk (x : In6) : Prop := 0 ≤ x.2.2.2.2.2 ∧ x.2.2.2.2.2 < 18446744073709551616
/-- What was written is read back. -/
theorem enc_dec : ∀ (l : List In6) (b : List Int), (∀ x ∈ l, wOk x) → encF l = some b → b.length = 8 * l.length ∧ BtOk b ∧ decF l.length b = some l
  | [], b, hw, h => by
    simp only [encF, Option.some.injEq] at h; subst h
    exact ⟨rfl, fun i => by unfold bt; simp, rfl⟩
  | [x], b, hw, h => by
    simp only [encF] at h
    split at h
    · rename_i hc
      obtain rfl := Option.some.inj h
      refine ⟨bts_len x, bts_byte hc.1, ?_⟩
      have e := rd_bts hc.1
      have t : (bts x).take 8 = bts x := List.take_of_length_le (Nat.le_of_eq (bts_len x))
      show decF 1 (bts x) = _
      simp only [decF, t, e, if_neg hc.2.1]
      rw [show (0 : Int) = x.2.2.2.2.2 from hc.2.2.symm]
    · cases h
  | x :: j :: r, b, hw, h => by
    simp only [encF] at h
    split at h
    rotate_left
    · cases h
    rename_i hk
    have e := rd_bts hk
    split at h
    · rename_i h24
      split at h
      · rename_i hc
        obtain ⟨b', h3, rfl⟩ := Option.map_eq_some_iff.1 h
        obtain ⟨i1, i2, i3⟩ := enc_dec r b' (fun y hy => hw y (List.mem_cons_of_mem _ (List.mem_cons_of_mem _ hy))) h3
        have wx : wOk x := hw x (List.mem_cons_self ..)
        obtain ⟨f1, f2⟩ := half_ok wx
        refine ⟨?_, btok_app (btok_app (bts_byte hk) f2) i2, ?_⟩
        · simp only [List.length_append, bts_len, List.length_cons, i1]; omega
        · have t : (bts x ++ bts (half x) ++ b').take 8 = bts x := by rw [List.append_assoc]; exact take8 _
          have d : (bts x ++ bts (half x) ++ b').drop 8 = bts (half x) ++ b' := by rw [List.append_assoc]; exact drop8 _
          have d2 : (bts x ++ bts (half x) ++ b').drop 16 = b' := by
            rw [show (16 : Nat) = 8 + 8 from rfl, ← List.drop_drop, d]; exact drop8 _
          show decF (r.length + 2) _ = _
          simp only [decF, t, d, d2, take8, e, f1, if_pos h24]
          rw [if_pos (show isz (0, 0, 0, 0, W.wrap .i64 (W.wrap .i32 (x.2.2.2.2.2 / 4294967296)), 0) from ⟨rfl, rfl, rfl, rfl⟩), i3, hc.1]
          unfold wOk at wx
          have ew : wide (x.1, x.2.1, x.2.2.1, x.2.2.2.1, x.2.2.2.2.1, 0) (0, 0, 0, 0, W.wrap .i64 (W.wrap .i32 (x.2.2.2.2.2 / 4294967296)), 0) = x := by
            unfold wide
            refine Prod.ext rfl (Prod.ext rfl (Prod.ext rfl (Prod.ext rfl (Prod.ext rfl ?_))))
            show u32i (W.wrap .i64 (W.wrap .i32 (x.2.2.2.2.2 / 4294967296))) * 4294967296 + u32i x.2.2.2.2.1 = x.2.2.2.2.2
            rw [u32_s32 (by omega), hc.2]; omega
          simp only [Option.map_some, ew]
      · cases h
    · rename_i h24
      split at h
      · rename_i h0
        obtain ⟨b', h3, rfl⟩ := Option.map_eq_some_iff.1 h
        obtain ⟨i1, i2, i3⟩ := enc_dec (j :: r) b' (fun y hy => hw y (List.mem_cons_of_mem _ hy)) h3
        refine ⟨?_, btok_app (bts_byte hk) i2, ?_⟩
        · simp only [List.length_append, bts_len, List.length_cons, i1]; omega
        · show decF (r.length + 2) _ = _
          simp only [decF, take8, drop8, e, if_neg h24]
          rw [show decF (r.length + 1) b' = some (j :: r) from i3, show (0 : Int) = x.2.2.2.2.2 from h0.symm]
          rfl
      · cases h
theorem bts_half {i : In6} {l : List Int} (h : BtOk l) (h8 : l.length = 8) (hz : isz (rd l)) : bts (half (wide i (rd l))) = l := by
  have hb := (rd_ok h h8).2
  have hi : (half (wide i (rd l))) = (0, 0, 0, 0, u32i (rd l).2.2.2.2.1, 0) := by
    unfold half wide
    refine Prod.ext rfl (Prod.ext rfl (Prod.ext rfl (Prod.ext rfl (Prod.ext ?_ rfl))))
    show (u32i (rd l).2.2.2.2.1 * 4294967296 + u32i i.2.2.2.2.1) / 4294967296 = u32i (rd l).2.2.2.2.1
    have := u32i_lt i.2.2.2.2.1
    have := u32i_lt (rd l).2.2.2.2.1
    omega
  rw [hi]
  refine Eq.trans ?_ hb
  generalize rd l = y at hz
  obtain ⟨z1, z2, z3, z4⟩ := hz
  rw [bts8, bts8, z1, z2, z3, z4, u32i_of]
  simp only [W.wu64]
  generalize y.2.2.2.2.1 = m
  simp only [List.cons.injEq, and_true, true_and]
  refine ⟨?_, ?_, ?_, ?_⟩ <;> omega
/-- What was read is written back. -/
theorem dec_enc : ∀ (m : Nat) (a : List Int) (r : List In6), a.length = 8 * m → BtOk a → decF m a = some r → encF r = some a
  | 0, a, r, ha, hb, h => by
    obtain rfl : a = [] := List.length_eq_zero_iff.1 (by omega)
    simp only [decF, Option.some.injEq] at h; subst h; rfl
  | 1, a, r, ha, hb, h => by
    simp only [decF] at h
    split at h
    · cases h
    · rename_i hn
      obtain rfl := Option.some.inj h
      have t : a.take 8 = a := List.take_of_length_le (by omega)
      rw [t] at hn ⊢
      obtain ⟨o1, o2⟩ := rd_ok hb (by omega)
      simp only [encF]
      rw [if_pos ⟨o1, hn, rfl⟩, o2]
  | m + 2, a, r, ha, hb, h => by
    simp only [decF] at h
    obtain ⟨o1, o2⟩ := rd_ok (hb.take 8) (by simp; omega : (a.take 8).length = 8)
    split at h
    · rename_i h24
      split at h
      · rename_i hz
        obtain ⟨r', h3, rfl⟩ := Option.map_eq_some_iff.1 h
        have ih := dec_enc m (a.drop 16) r' (by simp; omega) (hb.drop 16) h3
        simp only [encF]
        rw [if_pos (show okI (wide (rd (a.take 8)) (rd ((a.drop 8).take 8))) from o1), if_pos (show (wide (rd (a.take 8)) (rd ((a.drop 8).take 8))).1 = 24 from h24),
          if_pos ⟨trivial, by
            show u32i (rd (a.take 8)).2.2.2.2.1 = (u32i (rd ((a.drop 8).take 8)).2.2.2.2.1 * 4294967296 + u32i (rd (a.take 8)).2.2.2.2.1) % 4294967296
            have := u32i_lt (rd (a.take 8)).2.2.2.2.1
            omega⟩, ih, bts_half ((hb.drop 8).take 8) (by simp; omega) hz]
        simp only [Option.map_some, Option.some.injEq]
        rw [show bts (wide (rd (a.take 8)) (rd ((a.drop 8).take 8))) = a.take 8 from o2, List.append_assoc]
        have e1 : (a.drop 8).take 8 ++ a.drop 16 = a.drop 8 := by
          rw [show a.drop 16 = (a.drop 8).drop 8 by rw [List.drop_drop]]; exact List.take_append_drop 8 _
        rw [e1]; exact List.take_append_drop 8 a
      · cases h
    · rename_i hn
      obtain ⟨r', h3, rfl⟩ := Option.map_eq_some_iff.1 h
      have hl := dec_len _ _ _ h3
      have ih := dec_enc (m + 1) (a.drop 8) r' (by simp; omega) (hb.drop 8) h3
      cases r' with
      | nil => simp at hl
      | cons j r' =>
        simp only [encF]
        rw [if_pos o1, if_neg hn, if_pos (show (rd (a.take 8)).2.2.2.2.2 = 0 from rfl), ih]
        simp only [Option.map_some, Option.some.injEq]
        rw [o2]; exact List.take_append_drop 8 a
end Go.Eng
