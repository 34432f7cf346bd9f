import Derived.Test.YtokedpogofnenaaLawG
set_option linter.unusedVariables false
set_option linter.unusedSimpArgs false
set_option maxHeartbeats 4000000
set_option maxRecDepth 100000
namespace Go.Proofs.Ytokedpogofnenaa
open Go Go.Eng
open Classical
theorem kn_mem {l : List Kn} (h : ∀ x ∈ l, wfK x) (i : Nat) : wfK (kn l i) := by
  rcases Nat.lt_or_ge i l.length with hi | hi
  · exact h _ (List.mem_of_getElem? (kn_in hi))
  · rw [kn_out hi]; exact wfK_z
/-- What a law's arguments keep. -/
theorem wf_st {s : St} (h : WfP (.agg ((.prod (.slice ((.prod (.int .i64) (.prod ((.prod (.int .u64) (.prod (.int .u64) (.prod (.int .i64) (.prod (.int .i64) ((.prod (.int .u64) (.int .u64)))))))) (.int .i64))))) (.prod (.slice (.bool)) (.slice ((.prod (.int .i64) (.prod ((.prod (.int .u64) (.prod (.int .u64) (.prod (.int .i64) (.prod (.int .i64) ((.prod (.int .u64) (.int .u64)))))))) (.int .i64))))))))) s) : wfS s := by
  obtain ⟨⟨_, h1⟩, _, _, h2⟩ := h
  exact ⟨kn_mem fun x hx => h1 x hx, kn_mem fun x hx => h2 x hx⟩
theorem sz_st {s : St} (h : SzP (.agg ((.prod (.slice ((.prod (.int .i64) (.prod ((.prod (.int .u64) (.prod (.int .u64) (.prod (.int .i64) (.prod (.int .i64) ((.prod (.int .u64) (.int .u64)))))))) (.int .i64))))) (.prod (.slice (.bool)) (.slice ((.prod (.int .i64) (.prod ((.prod (.int .u64) (.prod (.int .u64) (.prod (.int .i64) (.prod (.int .i64) ((.prod (.int .u64) (.int .u64)))))))) (.int .i64))))))))) s) : smallS s := by
  obtain ⟨⟨h1, _⟩, ⟨h2, _⟩, ⟨h3, _⟩⟩ := h
  exact ⟨h1, h2, h3⟩
theorem one_trans {x y z : Kn} (h : oneP x y) (h' : oneP y z) : oneP x z := by
  rcases h with h | ⟨h1, h2, h3⟩
  · exact .inl h
  · by_cases h0 : x.1 = 0
    · exact .inl h0
    rcases h' with h' | ⟨k1, k2, k3⟩
    · exact absurd (h1.trans h') h0
    · right
      refine ⟨h1.trans k1, h2.trans k2, ?_⟩
      obtain ⟨a1, a2, a3, a4, a5, a6⟩ := h3
      obtain ⟨c1, c2, c3, c4, c5, c6⟩ := k3
      refine ⟨⟨by omega, by omega⟩, ⟨by omega, by omega⟩, ⟨by omega, by omega⟩, ⟨by omega, by omega⟩, ?_, ?_⟩
      · rw [← a5, ← c5, B64_U, B64_U, U_inj]
        ext i hi
        simp
        cases (B64 z.2.1.2.2.2.2.2)[i] <;> cases (B64 y.2.1.2.2.2.2.2)[i] <;> simp
      · rw [← a6, ← c6, B64_U, ← a5, ← c5, B64_U, B64_U, U_inj]
        ext i hi
        simp
        cases (B64 z.2.1.2.2.2.2.2)[i] <;> cases (B64 y.2.1.2.2.2.2.2)[i] <;> simp
theorem within_trans {s t u : St} (h : stWithinP s t) (h' : stWithinP t u) : stWithinP s u :=
  ⟨h.1, h'.2.1, fun i hi => one_trans (h.2.2.1 i hi) (h'.2.2.1 i hi), fun i hi q => h'.2.2.2.1 i hi (h.2.2.2.1 i hi q), fun i hi => one_trans (h.2.2.2.2 i hi) (h'.2.2.2.2 i hi)⟩
theorem order_pure (x : PTs.D ps_clevislaw11StateOrder) (hw : WfL ps_clevislaw11StateOrder x) :
    L_clevislaw11StateOrder F_state_Check F_state_Within F_clevislaw11heads x = some () := by
  obtain ⟨⟨a, t, b⟩, ⟨a', t', b'⟩, ⟨a2, t2, b2⟩⟩ := x
  have hwf : wfS (a, t, b) := wf_st hw.1
  simp only [L_clevislaw11StateOrder, check_eq, stWithin_eq, heads_eq]
  have key := @within_trans (a, t, b) (a', t', b') (a2, t2, b2)
  by_cases hc : checkP (a, t, b)
  · have hr := within_refl hc hwf
    by_cases h1 : stWithinP (a, t, b) (a', t', b')
    · by_cases h2 : stWithinP (a', t', b') (a2, t2, b2)
      · simp [hc, hr, h1, h2, key h1 h2, W.not, W.pick, W.and2, br]
      · simp [hc, hr, h1, h2, W.not, W.pick, W.and2, br]
    · simp [hc, hr, h1, W.not, W.pick, W.and2, br]
  · have h1 : ¬ stWithinP (a, t, b) (a', t', b') := fun h => hc h.1
    simp [hc, h1, W.not, W.pick, br]
theorem orderLaw (x : PTs.D ps_clevislaw11StateOrder) (hw : WfL ps_clevislaw11StateOrder x) (hz : SzL ps_clevislaw11StateOrder x) :
    ∃ (C : Cfg) (fl d : Nat), CfgOk C ∧ C.P = Try.prog ∧ call C fl d 5 (encL false ps_clevislaw11StateOrder x) [] getL = some () :=
  E_clevislaw11StateOrder ok_state_Check ok_state_Within ok_clevislaw11heads x (order_pure x hw)
theorem in_within {p q : Bd} {y : Int} (h : withinP p q) (h' : inP q y) : inP p y := by
  obtain ⟨h1, h2, h3, h4, h5, h6⟩ := h
  obtain ⟨h7, h8, h9⟩ := h'
  refine ⟨by omega, by omega, ?_⟩
  rw [← h6, ← h9, ← h5, B64_U, B64_U, U_inj]
  ext i hi
  simp
  cases (B64 q.2.2.2.2.2)[i] <;> simp
theorem holds_within {x y : Kn} {v : Int} (h : oneP x y) (h0 : y.1 ≠ 0) (hv : holdsP y v) : holdsP x v := by
  rcases h with h | ⟨h1, h2, h3⟩
  · exact ⟨fun e => (by rw [h] at e; cases e), fun e => (by rw [h] at e; cases e)⟩
  · refine ⟨fun e => ?_, fun e => in_within h3 (hv.2 (h1 ▸ e))⟩
    rw [h2]; exact in_within h3 (hv.1 (h1 ▸ e))
theorem holds_pure (x : PTs.D ps_clevislaw11StateHolds) (hw : WfL ps_clevislaw11StateHolds x) :
    L_clevislaw11StateHolds F_state_Within F_state_Holds F_clevislaw11heads x = some () := by
  obtain ⟨⟨a, t, b⟩, ⟨a', t', b'⟩, (r : Int), (v : Int)⟩ := x
  simp only [L_clevislaw11StateHolds, stWithin_eq, heads_eq, holds_eq, eta2, kn_get]
  by_cases h1 : stWithinP (a, t, b) (a', t', b')
  · by_cases hr : 0 ≤ r ∧ r < 11
    · have l1 : a.length = 11 := h1.1.1
      have l2 : a'.length = 11 := h1.2.1.1
      rw [br_neg (by simp [W.pick_eq, W.lt_d, W.ge_d, h1, W.not_eq]; omega)]
      simp only [inb0 (l := r) (N := W.len a') (by omega) (by rw [W.len_eq]; omega), inb0 (l := r) (N := W.len a) (by omega) (by rw [W.len_eq]; omega), or2_tr, br_t]
      have hn : r.toNat < 11 := by omega
      have ho := h1.2.2.1 r.toNat hn
      by_cases h0 : (kn a' r.toNat).1 = 0
      · simp [W.eq_d, W.toNat, h0, W.not, W.pick, br]
      · by_cases hv : holdsP (kn a' r.toNat) v
        · have := holds_within ho h0 hv
          dsimp only at this
          simp [W.eq_d, W.toNat, h0, hv, this, W.not, W.pick, br]
        · simp [W.eq_d, W.toNat, h0, hv, W.not, W.pick, br]
    · rw [br_pos (by simp [W.pick_eq, W.lt_d, W.ge_d, h1, W.not_eq]; omega)]
      rfl
  · rw [br_pos (by simp [W.pick_eq, W.lt_d, W.ge_d, h1, W.not_eq])]
    rfl
theorem holdsLaw (x : PTs.D ps_clevislaw11StateHolds) (hw : WfL ps_clevislaw11StateHolds x) (hz : SzL ps_clevislaw11StateHolds x) :
    ∃ (C : Cfg) (fl d : Nat), CfgOk C ∧ C.P = Try.prog ∧ call C fl d 6 (encL false ps_clevislaw11StateHolds x) [] getL = some () :=
  E_clevislaw11StateHolds ok_state_Within ok_state_Holds ok_clevislaw11heads x (holds_pure x hw)
end Go.Proofs.Ytokedpogofnenaa
