import Derived.Test.YtokedpogofnenaaLawH
set_option linter.unusedVariables false
set_option linter.unusedSimpArgs false
set_option maxHeartbeats 4000000
set_option maxRecDepth 100000
namespace Go.Proofs.Ytokedpogofnenaa
open Go Go.Eng
open Classical
theorem small_put {s : St} (h : smallS s) (r : Int) (x : Kn) : smallS (putS s r x) := by
  unfold putS
  split
  · exact ⟨by simpa using h.1, h.2.1, h.2.2⟩
  · exact h
theorem small_store {s : St} (hs : smallS s) (l h n : Int) (x : Kn) : smallS (storeS s l h n x) := by
  unfold storeS
  split
  · refine ⟨hs.1, ?_, ?_⟩
    · dsimp only; split
      · rw [mrk_len]; exact hs.2.1
      · exact hs.2.1
    · dsimp only; split
      · rw [List.length_set, clr_len]; exact hs.2.2
      · rw [clr_len]; exact hs.2.2
  · exact hs
theorem moves_pure (x : PTs.D ps_clevislaw11StateMoves) (hw : WfL ps_clevislaw11StateMoves x) (hz : SzL ps_clevislaw11StateMoves x) :
    L_clevislaw11StateMoves F_state_Store F_state_Ready F_state_Load F_clevislaw11heads F_clevisref11Ready F_clevisref11Load F_clevisref11Same F_state_Put F_clevisref11Put F_clevisref11Store x = some () := by
  obtain ⟨⟨a, t, b⟩, ⟨(y0 : Int), ⟨(y1 : Int), (y2 : Int), (y3 : Int), (y4 : Int), (y5 : Int), (y6 : Int)⟩, (y7 : Int)⟩, (l : Int), (h : Int), (n : Int)⟩ := x
  have hwf : wfS (a, t, b) := wf_st hw.1
  have hs : smallS (a, t, b) := sz_st hz.1
  have hk : wfK (y0, (y1, y2, y3, y4, y5, y6), y7) := hw.2.1
  simp only [L_clevislaw11StateMoves]
  rw [rsmall (a, t, b) hs, load_eq, rload_eq ((a, t, b), l, h, n) hwf, put_eq ((a, t, b), n, y0, (y1, y2, y3, y4, y5, y6), y7) hs, rput_eq ((a, t, b), n, y0, (y1, y2, y3, y4, y5, y6), y7) hwf hk hs]
  simp only [eta2]
  rw [same_eq (putS (a, t, b) n (y0, (y1, y2, y3, y4, y5, y6), y7)) (small_put hs _ _), br_t, store_eq ((a, t, b), l, h, n, y0, (y1, y2, y3, y4, y5, y6), y7) hs, rstore_eq ((a, t, b), l, h, n, y0, (y1, y2, y3, y4, y5, y6), y7) hwf hk hs]
  simp only [eta2]
  rw [same_eq (storeS (a, t, b) l h n (y0, (y1, y2, y3, y4, y5, y6), y7)) (small_store hs _ _ _ _)]
  simp only [weq_self, eqB_self, W.and2, Bool.and_self, W.pick_eq, cond_true, br_t]
  rw [ready_eq, rready_eq ((a, t, b), l, h) hwf]
  simp only [eqB_self, br_t]
  rw [same_eq (a, t, b) hs, br_t, heads_eq]
  simp only [br_t]
theorem movesLaw (x : PTs.D ps_clevislaw11StateMoves) (hw : WfL ps_clevislaw11StateMoves x) (hz : SzL ps_clevislaw11StateMoves x) :
    ∃ (C : Cfg) (fl d : Nat), CfgOk C ∧ C.P = Try.prog ∧ call C fl d 7 (encL false ps_clevislaw11StateMoves x) [] getL = some () :=
  E_clevislaw11StateMoves ok_state_Store ok_state_Ready ok_state_Load ok_clevislaw11heads ok_clevisref11Ready ok_clevisref11Load ok_clevisref11Same ok_state_Put ok_clevisref11Put ok_clevisref11Store x (moves_pure x hw hz)
end Go.Proofs.Ytokedpogofnenaa
