/- The engine, part E: reading and writing memory. -/
import Derived.Test.YtflkcceicgaipaaEngD
set_option linter.unusedVariables false
set_option linter.unusedSimpArgs false
namespace Go.Eng
open Go Go.RowKit

section
variable {w0 w w1 : World} {π : Pi} {P : Program} {slot : Nat} {h : List Blk} {v : V} {u : Upd}

theorem TR.slice_len {t : Ty} {l : List t.D} {v : Value} (hx : TR w0 (.slice t) l [v]) : ∃ a cap, v = .slice a l.length cap ∧ l.length ≤ maxLen := by
  simp only [TR] at hx
  obtain ⟨a, cap, hc, h1, h2, _⟩ := hx
  simp at hc
  exact ⟨a, cap, hc, by omega⟩

theorem index_sound {t : TypeId} {x i : V} {cx ci : Value} (hx : VR w0 π x cx) (hi : VR w0 π i ci) (he : EffTo P slot h (indexAct P t x i) v u) : u = .no ∧ Gives P w0 π (Instr.indexAt t cx ci) v := by
  unfold indexAct at he
  split at he
  · rename_i e tt l k n hu
    simp only [VR] at hi
    obtain ⟨rfl, hw⟩ := hi
    split at he
    · exact he.elim
    · rename_i hs
      have hs' : sizeB P e = some tt.size := by simpa using hs
      rcases he with ⟨hb, rfl, rfl⟩ | ⟨_, hf⟩
      · simp only [W.and2_t, W.le_t, W.lt_t, W.ofNat, W.len] at hb
        obtain ⟨h0, h1⟩ := hb
        refine ⟨rfl, fun w => ?_⟩
        simp only [VR, TR] at hx
        obtain ⟨a, cap, hc, hl, hm, hrow⟩ := hx
        simp at hc; subst hc
        have hlt : n.toNat < l.length := by omega
        obtain ⟨g, off, rfl, hg, hcells⟩ := hrow (by omega)
        obtain ⟨ds, hds, hcell⟩ := hcells n.toNat hlt
        refine ⟨.pointer (some ⟨g, off + n.toNat * tt.size, none⟩), ?_, ?_⟩
        · simp [Instr.indexAt, asIntOf, run_underlying hu, h0, h1, sizeB_run hs', Addr.add]
        · simp only [VR]
          refine ⟨g, off + n.toNat * tt.size, ds, rfl, hg, ?_, fun j u hj => ?_⟩
          · simp only [W.get, W.toNat]
            rw [List.getD_eq_getElem?_getD, List.getElem?_eq_getElem hlt]
            exact hds
          · rw [Nat.add_assoc]; exact hcell j u hj
      · exact hf.elim
  · simp only [VR] at hx
  · rename_i m e b off k n hu
    simp only [VR] at hi hx
    obtain ⟨rfl, hw⟩ := hi
    obtain ⟨g, hg, rfl⟩ := hx
    split at he
    · rename_i s hs
      rcases he with ⟨hb, rfl, rfl⟩ | ⟨_, hf⟩
      · simp only [W.and2_t, W.le_t, W.lt_t, W.ofNat] at hb
        refine ⟨rfl, fun w => ⟨_, ?_, by simp only [VR]; exact ⟨g, hg, rfl⟩⟩⟩
        obtain ⟨h0, h1⟩ := hb
        simp [Instr.indexAt, asIntOf, run_underlying hu, Instr.sureAddr, h0, h1, sizeB_run hs, Addr.add]
      · exact hf.elim
    · exact he.elim
  · exact he.elim

theorem max2_sound {x y z : V} {cx cy : Value} (hx : VR w0 π x cx) (hy : VR w0 π y cy) (hz : max2V x y = some z) : ∃ c, (∀ w, (Builtin.max2 cx cy).run P w = .ok c w) ∧ VR w0 π z c := by
  unfold max2V at hz
  split at hz
  · simp only [VR] at hx hy; obtain ⟨rfl, ha⟩ := hx; obtain ⟨rfl, hb⟩ := hy
    split at hz
    · rename_i hk; subst hk; cases hz
      refine ⟨_, fun w => rfl, ?_⟩
      simp only [VR, W.max]
      exact ⟨trivial, by split <;> assumption⟩
    · cases hz
  · cases hz
theorem min2_sound {x y z : V} {cx cy : Value} (hx : VR w0 π x cx) (hy : VR w0 π y cy) (hz : min2V x y = some z) : ∃ c, (∀ w, (Builtin.min2 cx cy).run P w = .ok c w) ∧ VR w0 π z c := by
  unfold min2V at hz
  split at hz
  · simp only [VR] at hx hy; obtain ⟨rfl, ha⟩ := hx; obtain ⟨rfl, hb⟩ := hy
    split at hz
    · rename_i hk; subst hk; cases hz
      refine ⟨_, fun w => rfl, ?_⟩
      simp only [VR, W.min]
      exact ⟨trivial, by split <;> assumption⟩
    · cases hz
  · cases hz
theorem fold_sound {f : V → V → Option V} {F : Value → Value → Sem Value} (hf : ∀ {x y z : V} {cx cy : Value}, VR w0 π x cx → VR w0 π y cy → f x y = some z → ∃ c, (∀ w, (F cx cy).run P w = .ok c w) ∧ VR w0 π z c) :
    ∀ {l : List V} {m : List Value} {x z : V} {cx : Value}, VR w0 π x cx → VRL w0 π l m → foldV f x l = some z → ∃ c, (∀ w, (m.foldlM F cx).run P w = .ok c w) ∧ VR w0 π z c
  | [], m, x, z, cx, hx, hl, hz => by
    simp [foldV] at hz; subst hz
    have := VRL.nil hl; subst this
    exact ⟨cx, fun w => by simp, hx⟩
  | y :: l, m, x, z, cx, hx, hl, hz => by
    obtain ⟨cy, m', rfl, hy, hl'⟩ := VRL.cons hl
    simp only [foldV] at hz
    cases hr : f x y with
    | none => simp [hr] at hz
    | some q =>
      simp only [hr, Option.bind_some] at hz
      obtain ⟨c, hc, hv⟩ := hf hx hy hr
      obtain ⟨c2, hc2, hv2⟩ := fold_sound hf hv hl' hz
      exact ⟨c2, fun w => by simp [List.foldlM_cons, hc, hc2], hv2⟩

theorem len_sound {t ty : TypeId} {x : V} {c : Value} {ts : Array TypeId} (ht : ts[0]? = some t) (hx : VR w0 π x c) (he : EffTo P slot h (lenAct P t x) v u) :
    u = .no ∧ Gives P w0 π (Builtin.len_ ts ty #[c]) v := by
  unfold lenAct at he
  split at he
  · rename_i e tt l hu
    obtain ⟨rfl, rfl⟩ := he
    simp only [VR] at hx
    obtain ⟨a, cap, rfl, hm⟩ := TR.slice_len hx
    exact ⟨rfl, fun w => ⟨_, by simp [Builtin.len_, ht, run_underlying hu, goInt, W.ofNat, W.len], VR.int' (wfI_nat _ hm)⟩⟩
  · simp only [VR] at hx
  · rename_i e hu
    obtain ⟨rfl, rfl⟩ := he
    simp only [VR] at hx; subst hx
    exact ⟨rfl, fun w => ⟨_, by simp [Builtin.len_, ht, run_underlying hu, goInt], VR.int' (by unfold wfI; decide)⟩⟩
  · rename_i s hu
    obtain ⟨rfl, rfl⟩ := he
    simp only [VR] at hx; obtain ⟨rfl, hs⟩ := hx
    exact ⟨rfl, fun w => ⟨_, by simp [Builtin.len_, ht, run_underlying hu, goInt, W.ofNat, W.size], VR.int' (wfI_nat _ hs)⟩⟩
  · rename_i n e x hu
    split at he
    · rename_i hn
      obtain ⟨rfl, rfl⟩ := he
      exact ⟨rfl, fun w => ⟨_, by simp [Builtin.len_, ht, run_underlying hu, goInt, W.ofNat], VR.int' (wfI_nat _ (by simp [maxLen]; omega))⟩⟩
    · exact he.elim
  · exact he.elim

theorem stringIndex_sound {t : TypeId} {s : ByteArray} {k : IntKind} {n : Int} (hu : P.underlying t = some .string) (h0 : 0 ≤ n) (h1 : n < s.size) (w : World) :
    (Instr.index t (.string s) (.int k n)).run P w = .ok (.int .u8 (W.byte s (W.toNat n))) w := by
  have hlt : n.toNat < s.size := by omega
  simp [Instr.index, asIntOf, run_underlying hu, h0, W.byte, W.toNat, hlt, getElem?_pos]
end
end Go.Eng
