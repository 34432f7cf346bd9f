import Derived.Test.YthelcblaomahdaaLawE
set_option linter.unusedVariables false
set_option linter.unusedSimpArgs false
set_option maxHeartbeats 4000000
set_option maxRecDepth 100000
namespace Go.Proofs.Ythelcblaomahdaa
open Go Go.Eng
open Classical
theorem tru (b : Bool) (h : b = true) {R : Type} (x y : Option R) : br b x y = x := br_pos h x y
theorem MemFresh_pure (x : PTs.D ps_clevislaw02MemFresh) (hw : WfL ps_clevislaw02MemFresh x) (hz : SzL ps_clevislaw02MemFresh x) :
    L_clevislaw02MemFresh F_mem_Check F_mem_Fresh F_mem_Area F_mem_Address F_mem_Access F_mem_Bytes F_clevislaw02heads W.big x = some () := by
  obtain ⟨⟨⟨(c : Int), (cw : Bool)⟩, (ms : List Ar)⟩, (r : Int), (o : Int)⟩ := x
  have hr : wfI .i64 r := hw.2.1
  have hsz := area_sz (l := ((c, cw), ms)) (r := r)
  simp only [L_clevislaw02MemFresh, freshM_eq, area_eq _ _ hr, mCheck_eq, heads2_eq, W.eqB_self, address_eq]
  by_cases h : layOK ((c, cw), ms) ∧ (areaP ((c, cw), ms) r).2 = true ∧ 0 ≤ o ∧ o < (areaP ((c, cw), ms) r).1.1
  · obtain ⟨h1, h2, h3, h4⟩ := h
    have hr1 : 1 ≤ r ∧ r ≤ 10 := by
      false_or_by_contra
      rename_i hc
      have hl := areas_len (l := ((c, cw), ms))
      unfold areaP at h2
      rw [if_neg (by omega)] at h2; cases h2
    have ha : p64 (adrP r o) := by unfold p64 adrP; omega
    have e1 : adrP r o / 4294967296 = r := by unfold adrP; omega
    have e2 : adrP r o % 4294967296 = o := by unfold adrP; omega
    have en : W.wrap .i64 (W.sub (areaP ((c, cw), ms) r).1.1 o) = (areaP ((c, cw), ms) r).1.1 - o := by rw [W.sub_eq, W.wi64_id (by omega) (by omega)]
    have en1 : W.wrap .i64 (W.add ((areaP ((c, cw), ms) r).1.1 - o) 1) = (areaP ((c, cw), ms) r).1.1 - o + 1 := by rw [W.add_eq, W.wi64_id (by omega) (by omega)]
    have hb := fresh_bytes h1 e1 e2 h2 h3 h4
    rw [br_neg (by
      rw [Bool.eq_false_iff]; intro h'
      simp only [W.picko_t, W.ne_t, W.not_t, W.lt_t, W.ge_t, h2] at h'
      unfold chkLP at h'; rw [if_pos h1] at h'
      rcases h' with ((h' | h') | h') | h'
      · exact h' rfl
      · cases h'
      · omega
      · omega)]
    simp only [en, bytesM_eq _ _ _ _ (meSz_le (meSz_fresh _)) ha, hb, W.len_eq, W.ofNat_eq, List.length_replicate]
    rw [br_neg (by rw [Bool.eq_false_iff]; intro h'; rw [W.picko_t, W.ne_t, W.ne_t] at h'; omega)]
    have := loop_all (P := fun n i => P_clevislaw02MemFresh_9_0 F_mem_Check F_mem_Fresh F_mem_Area F_mem_Address F_mem_Access F_mem_Bytes F_clevislaw02heads W.big n Unit r o (List.replicate ((areaP ((c, cw), ms) r).1.1 - o).toNat 0) i c cw ms (areaP ((c, cw), ms) r).1.1 (areaP ((c, cw), ms) r).1.2)
      (N := ((areaP ((c, cw), ms) r).1.1 - o).toNat) (c := fun _ => True) (kt := some ()) (kf := none)
      (fun n t ht => by
        rw [P_clevislaw02MemFresh_9_0_s, W.len_eq, List.length_replicate, br_pos (W.lt_t.2 (by rw [W.ofNat_eq]; omega)), br_pos (inb ht), W.toNat_nat, W.get_eq, W.succ64 (by omega), if_pos trivial, br_neg]
        rw [List.getD_eq_getElem?_getD, List.getElem?_replicate, if_pos ht]; rfl)
      (fun n => by
        rw [P_clevislaw02MemFresh_9_0_s, W.len_eq, List.length_replicate, br_neg (by rw [Bool.eq_false_iff]; intro h'; rw [W.lt_t, W.ofNat_eq] at h'; omega)]
        simp only [address_eq, access_eq _ _ _ _ ha, heads2_eq, en, en1]
        rw [br_pos (by
          rw [W.ne_t]
          intro h'
          have := acc_ok (m := freshP ((c, cw), ms)) (may_fresh h1) ha.1 h'
          rw [e1, e2] at this
          omega)]
        rfl) ((areaP ((c, cw), ms) r).1.1 - o).toNat W.big 0 (by omega) (big_lt (by omega))
    rw [show ((0 : Nat) : Int) = 0 from rfl] at this
    rw [this, if_pos (fun _ _ _ => trivial)]
  · rw [br_pos, br_t]
    · rfl
    · simp only [W.picko_t, W.ne_t, W.not_t, W.lt_t, W.ge_t]
      by_cases h1 : layOK ((c, cw), ms)
      · by_cases h2 : (areaP ((c, cw), ms) r).2 = true
        · by_cases h3 : o < 0
          · exact .inl (.inr h3)
          · right; false_or_by_contra; exact h ⟨h1, h2, by omega, by omega⟩
        · exact .inl (.inl (.inr (by simpa using h2)))
      · left; left; left; unfold chkLP; rw [if_neg h1]; decide
theorem MemFresh_law (x : PTs.D ps_clevislaw02MemFresh) (hw : WfL ps_clevislaw02MemFresh x) (hz : SzL ps_clevislaw02MemFresh x) :
    ∃ (C : Cfg) (fl d : Nat), CfgOk C ∧ C.P = Try.prog ∧ call C fl d 3 (encL false ps_clevislaw02MemFresh x) [] getL = some () :=
  E_clevislaw02MemFresh ok_mem_Check ok_mem_Fresh ok_mem_Area ok_mem_Address ok_mem_Access ok_mem_Bytes ok_clevislaw02heads x W.big (MemFresh_pure x hw hz)
theorem MemLays_pure (x : PTs.D ps_clevislaw02MemLays) (hw : WfL ps_clevislaw02MemLays x) (hz : SzL ps_clevislaw02MemLays x) :
    L_clevislaw02MemLays F_mem_Check F_mem_Fresh F_mem_Area F_mem_Address F_mem_Split F_mem_Access F_mem_May F_clevislaw02heads F_clevisref02Check F_clevisref02Area F_clevisref02Fresh F_clevisref02Same F_clevisref02May F_clevisref02Split F_clevisref02Address F_clevisref02Access x = some () := by
  obtain ⟨⟨⟨(c : Int), (cw : Bool)⟩, (ms : List Ar)⟩, (m : Me), (a : Int), (n : Int)⟩ := x
  have hm := meSz_le (meSz_of hz.2.1)
  have ha : p64 a := u64_lo hw.2.2.1
  have hr := reg_wf ha
  simp only [L_clevislaw02MemLays, freshM_eq, rfreshM_eq, sameM_eq _ _ (meSz_fresh _) (meSz_fresh _) (meOk_fresh _) (meOk_fresh _), mCheck_eq, rCheck2_eq, may_eq _ m hm, rmay_eq _ m hm, split_eq a ha, rsplit_eq a ha, area_eq _ _ hr, rarea_eq _ _ hr,
    address_eq, raddress_eq, access_eq _ a n _ ha, raccess_eq _ a n _ ha, heads2_eq, W.eq_self, W.ne_self, W.eqB_self, decide_true, W.not_tt, W.not_ff, W.pick_ft, W.pick_tf, W.pick_tt, W.and2_tt, br_t, br_f]
theorem MemLays_law (x : PTs.D ps_clevislaw02MemLays) (hw : WfL ps_clevislaw02MemLays x) (hz : SzL ps_clevislaw02MemLays x) :
    ∃ (C : Cfg) (fl d : Nat), CfgOk C ∧ C.P = Try.prog ∧ call C fl d 4 (encL false ps_clevislaw02MemLays x) [] getL = some () :=
  E_clevislaw02MemLays ok_mem_Check ok_mem_Fresh ok_mem_Area ok_mem_Address ok_mem_Split ok_mem_Access ok_mem_May ok_clevislaw02heads ok_clevisref02Check ok_clevisref02Area ok_clevisref02Fresh ok_clevisref02Same ok_clevisref02May ok_clevisref02Split ok_clevisref02Address ok_clevisref02Access x (MemLays_pure x hw hz)
theorem MemLoads_pure (x : PTs.D ps_clevislaw02MemLoads) (hw : WfL ps_clevislaw02MemLoads x) (hz : SzL ps_clevislaw02MemLoads x) :
    L_clevislaw02MemLoads F_mem_Bytes F_mem_Load F_clevislaw02heads F_clevisref01Same F_clevisref02Bytes F_clevisref02Load x = some () := by
  obtain ⟨⟨⟨(c : Int), (cw : Bool)⟩, (ms : List Ar)⟩, (m : Me), (a : Int), (n : Int)⟩ := x
  have hs := meSz_of hz.2.1
  have hm := meSz_le hs
  have ho := meOk_of hw.2.1
  have ha : p64 a := u64_lo hw.2.2.1
  have hn : wfI .i64 n := hw.2.2.2
  have hb := bytesP_ok (l := ((c, cw), ms)) (a := a) (n := n) ho
  have hl : (bytesP ((c, cw), ms) m a n).1.length ≤ 140737488355328 := by
    unfold bytesP
    split
    · simp
    split
    · simp
    · have h3 : (rowOf m a).length ≤ 140737488351232 := hs.2 _
      simp only [List.length_take, List.length_drop]; omega
  simp only [L_clevislaw02MemLoads, load_eq _ m a n hm ho ha hn, rload_eq _ m a n hm ho ha, bytesM_eq _ m a n hm ha, rbytes_eq _ m a n hm ha, same_eq _ _ hl hl hb hb, heads2_eq, W.eq_self, decide_true, W.pick_tf, br_t]
theorem MemLoads_law (x : PTs.D ps_clevislaw02MemLoads) (hw : WfL ps_clevislaw02MemLoads x) (hz : SzL ps_clevislaw02MemLoads x) :
    ∃ (C : Cfg) (fl d : Nat), CfgOk C ∧ C.P = Try.prog ∧ call C fl d 5 (encL false ps_clevislaw02MemLoads x) [] getL = some () :=
  E_clevislaw02MemLoads ok_mem_Bytes ok_mem_Load ok_clevislaw02heads ok_clevisref01Same ok_clevisref02Bytes ok_clevisref02Load x (MemLoads_pure x hw hz)
theorem MemStores_pure (x : PTs.D ps_clevislaw02MemStores) (hw : WfL ps_clevislaw02MemStores x) (hz : SzL ps_clevislaw02MemStores x) :
    L_clevislaw02MemStores F_mem_Fill F_mem_Store F_clevislaw02heads F_clevisref02Same F_clevisref02Copy F_clevisref02Fill F_clevisref02Store x = some () := by
  obtain ⟨⟨⟨(c : Int), (cw : Bool)⟩, (ms : List Ar)⟩, (m : Me), (a : Int), (n : Int), (x : Int), (b : List Int)⟩ := x
  have hs := meSz_of hz.2.1
  have hm := meSz_le hs
  have ho := meOk_of hw.2.1
  have ha : p64 a := u64_lo hw.2.2.1
  have hn : wfI .i64 n := hw.2.2.2.1
  have hb : BtOk b := btOk_wf hw.2.2.2.2.2.2
  have s1 := meSz_store (l := ((c, cw), ms)) (m := m) (n := n) (x := x) ha.1
  have o1 := meOk_store (l := ((c, cw), ms)) (n := n) (x := x) ha.1 ho
  have s2 := meSz_fill (l := ((c, cw), ms)) (m := m) (b := b) ha.1
  have o2 := meOk_fill (l := ((c, cw), ms)) (b := b) ha.1 ho hb
  simp only [L_clevislaw02MemStores, copy_eq m hs, store_eq _ m a n x hm ha hn, rstore_eq _ m a n x hm ha, fillM_eq _ m a b hm ha, rfillM_eq _ m a b hm ha, sameM_eq _ _ s1 s1 o1 o1, sameM_eq _ _ s2 s2 o2 o2, sameM_eq m m hs hs ho ho,
    heads2_eq, W.eq_self, decide_true, W.pick_tf, br_t]
theorem MemStores_law (x : PTs.D ps_clevislaw02MemStores) (hw : WfL ps_clevislaw02MemStores x) (hz : SzL ps_clevislaw02MemStores x) :
    ∃ (C : Cfg) (fl d : Nat), CfgOk C ∧ C.P = Try.prog ∧ call C fl d 6 (encL false ps_clevislaw02MemStores x) [] getL = some () :=
  E_clevislaw02MemStores ok_mem_Fill ok_mem_Store ok_clevislaw02heads ok_clevisref02Same ok_clevisref02Copy ok_clevisref02Fill ok_clevisref02Store x (MemStores_pure x hw hz)
theorem MemBack_pure (x : PTs.D ps_clevislaw02MemBack) (hw : WfL ps_clevislaw02MemBack x) (hz : SzL ps_clevislaw02MemBack x) :
    L_clevislaw02MemBack F_mem_May F_mem_Load F_mem_Store F_clevislaw02heads F_clevisref01Get F_clevisref01Put x = some () := by
  obtain ⟨⟨⟨(c : Int), (cw : Bool)⟩, (ms : List Ar)⟩, (m : Me), (a : Int), (n : Int), (x : Int), (t : Int)⟩ := x
  have hs : meSz m := meSz_of hz.2.1
  have hm := meSz_le hs
  have ho : meOk m := meOk_of hw.2.1
  have ha : p64 a := u64_lo hw.2.2.1
  have hn : wfI .i64 n := hw.2.2.2.1
  have ht : p64 t := u64_lo hw.2.2.2.2.2
  have w1 : wfI .i64 1 := rfl
  have s1 := meSz_le (meSz_store (l := ((c, cw), ms)) (m := m) (n := n) (x := x) ha.1)
  have o1 := meOk_store (l := ((c, cw), ms)) (n := n) (x := x) ha.1 ho
  simp only [L_clevislaw02MemBack, store_eq _ m a n x hm ha hn, W.len_eq, W.ofNat_eq]
  by_cases he : (storeP ((c, cw), ms) m a n x).2 = 0
  · rw [br_neg (by rw [W.ne_d, he]; decide)]
    simp only [load_eq _ _ a n s1 o1 ha hn, load_eq _ _ t 1 s1 o1 ht w1, load_eq _ m t 1 hm ho ht w1, may_eq _ _ s1, rput_eq, rget_eq _ (bytes_ok x n), heads2_eq]
    obtain ⟨b1, b2, b3, b4⟩ := back_ok (l := ((c, cw), ms)) ha ho he
    have hn8 : 0 ≤ n ∧ n ≤ 8 := sz_le b4
    rw [b2]
    simp only [W.ne_self, W.not_ff, br_t, decide_eq_true b1, W.not_tt, W.pick_ft, br_f, W.pick_tf]
    by_cases hc : a ≤ t ∧ t - a < n
    · obtain ⟨e1, e2⟩ := load_err (l := ((c, cw), ms)) (m := m) (m' := (storeP ((c, cw), ms) m a n x).1) (t := t) b3 b1
      have hq : W.pick (W.ge t a) (W.lt (W.wrap .u64 (W.sub t a)) (W.wrap .u64 n)) false = true := by
        unfold p64 at ha ht
        rw [W.pickf_t, W.ge_t, W.lt_t, W.sub_eq, W.wu64_id (by omega) (by omega), W.wu64_id (by omega) (by omega)]; omega
      rw [e1, hq, W.ne_self, br_f]
      rw [br_pos (show W.pick true true _ = true from rfl)]
    · rw [load_other ha ht he hc, W.ne_self, br_f, W.eq_self]
      rw [br_pos (by rw [W.picko_t]; exact .inr rfl)]
  · rw [br_pos (by rw [W.ne_d]; simpa using he), store_err he]
    simp only [heads2_eq, List.length_nil]
    decide
theorem MemBack_law (x : PTs.D ps_clevislaw02MemBack) (hw : WfL ps_clevislaw02MemBack x) (hz : SzL ps_clevislaw02MemBack x) :
    ∃ (C : Cfg) (fl d : Nat), CfgOk C ∧ C.P = Try.prog ∧ call C fl d 7 (encL false ps_clevislaw02MemBack x) [] getL = some () :=
  E_clevislaw02MemBack ok_mem_May ok_mem_Load ok_mem_Store ok_clevislaw02heads ok_clevisref01Get ok_clevisref01Put x (MemBack_pure x hw hz)
theorem MemParts_pure (x : PTs.D ps_clevislaw02MemParts) (hw : WfL ps_clevislaw02MemParts x) (hz : SzL ps_clevislaw02MemParts x) :
    L_clevislaw02MemParts F_mem_Address F_mem_Split F_clevislaw02heads x = some () := by
  obtain ⟨(r : Int), (o : Int)⟩ := x
  have hr := i64_lo hw.1
  have ho := i64_lo hw.2
  simp only [L_clevislaw02MemParts]
  by_cases h : (0 ≤ r ∧ r < 2147483648) ∧ 0 ≤ o ∧ o < 4294967296
  · rw [br_neg (by rw [Bool.eq_false_iff]; intro h'; simp only [W.picko_t, W.lt_t, W.ge_t] at h'; omega)]
    have ha : p64 (adrP r o) := by unfold p64 adrP; omega
    have e1 : adrP r o / 4294967296 = r := by unfold adrP; omega
    have e2 : adrP r o % 4294967296 = o := by unfold adrP; omega
    simp only [address_eq, split_eq _ ha, e1, e2, heads2_eq, W.eq_self, W.pick_tf, br_t]
  · rw [br_pos (by simp only [W.picko_t, W.lt_t, W.ge_t]; omega)]
    simp only [heads2_eq, br_t]
theorem MemParts_law (x : PTs.D ps_clevislaw02MemParts) (hw : WfL ps_clevislaw02MemParts x) (hz : SzL ps_clevislaw02MemParts x) :
    ∃ (C : Cfg) (fl d : Nat), CfgOk C ∧ C.P = Try.prog ∧ call C fl d 8 (encL false ps_clevislaw02MemParts x) [] getL = some () :=
  E_clevislaw02MemParts ok_mem_Address ok_mem_Split ok_clevislaw02heads x (MemParts_pure x hw hz)
end Go.Proofs.Ythelcblaomahdaa
