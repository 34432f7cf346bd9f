/- The engine, part R: any operation. -/
import Derived.Test.YtdfelkcioeinfaaDoorEnwQ
set_option linter.unusedVariables false
set_option linter.unusedSimpArgs false
namespace Go.Eng
open Go Go.RowKit

section
variable {Φ : Fr} {w w1 : World} {π : Pi} {P : Program} {h : List Blk} {slot : Nat} {v : V} {u : Upd}

theorem Good.gives {a : Go.Act} {o : Oper} {x : Sem Value} (he : execOp a.eval o = (do pure (.value (← x)))) (hr : HR Φ w1 π h w) (hs : u = .no ∧ Gives P Φ π x v) : Good P o a w (Post Φ w1 π h v u) := by
  obtain ⟨rfl, hg⟩ := hs
  obtain ⟨c, h1, h2⟩ := hg w
  exact Good.value (c := c) (w' := w) (by rw [he]; simp [h1]) (Post.mk (Pi.le_refl _) hr h2)
theorem Good.post {a : Go.Act} {o : Oper} {x : Sem Value} (he : execOp a.eval o = (do pure (.value (← x)))) (hs : ∃ cv w', x.run P w = .ok cv w' ∧ Post Φ w1 π h v u cv w') : Good P o a w (Post Φ w1 π h v u) := by
  obtain ⟨c, w', h1, h2⟩ := hs
  exact Good.value (c := c) (w' := w') (by rw [he]; simp [h1]) h2
theorem VR.tup0 {c : Value} (h : c = undef) : VR Φ π (.tup []) c := by
  simp only [VR]; exact ⟨_, h, by simp [VRL]⟩
theorem sameO_sound {a : Go.Act} {x y : Operand} (h : sameO x y = true) : a.eval x = a.eval y := by
  unfold sameO at h
  split at h
  · rename_i p q; have : p = q := by simpa using h
    rw [this]
  · rename_i k p k' q
    simp only [Bool.and_eq_true, decide_eq_true_eq] at h
    rw [h.1, h.2]
  · cases h
theorem idx_sound {t : TypeId} {x i : V} {cx ci : Value} (hx : VR Φ π x cx) (hi : VR Φ π i ci) (he : EffTo P slot h (idxAct P t x i) v u) : u = .no ∧ Gives P Φ π (Instr.index t cx ci) v := by
  cases i <;> simp only [idxAct] at he <;> (try exact he.elim)
  rename_i k n
  simp only [VR] at hi
  rw [hi.1]
  cases x <;> simp only at he <;> (try exact he.elim)
  · rename_i s
    simp only [VR] at hx
    rw [hx.1]
    split at he
    · rename_i hu
      rcases he with ⟨hb, rfl, rfl⟩ | ⟨_, hf⟩
      · obtain ⟨h0, h1⟩ := inB_t.1 hb
        refine ⟨rfl, fun w => ⟨_, stringIndex_sound hu h0 (by simpa [W.size] using h1) w, VR.int' ?_⟩⟩
        rw [wfI_iff]
        have : 0 ≤ W.byte s (W.toNat n) ∧ W.byte s (W.toNat n) ≤ 255 := by
          unfold W.byte
          split
          · rename_i hlt; have := s[W.toNat n].toNat_lt; omega
          · omega
        simpa [IntKind.min, IntKind.max, IntKind.signed, IntKind.bits] using this
      · exact hf.elim
    · exact he.elim
  · rename_i c
    simp only [VR] at hx
    obtain ⟨cs, rfl, hcs⟩ := hx
    split at he
    · rename_i m e hu
      split at he
      · rename_i kk hue hsz
        split at he
        · rename_i xs hxs
          rcases he with ⟨hb, rfl, rfl⟩ | ⟨_, hf⟩
          · obtain ⟨h0, h1⟩ := inB_t.1 hb
            obtain ⟨hlx, hlc, hd⟩ := decMany_sound (by simp) hxs hcs
            have hin : W.toNat n < xs.length := by unfold W.toNat; omega
            obtain ⟨ds, h2, h3⟩ := hd (W.toNat n) hin
            simp only [TR] at h2
            obtain ⟨rfl, hw⟩ := h2
            have h4 := h3 0 _ rfl
            simp only [Ty.size, Nat.mul_one, Nat.add_zero] at h4 hlc
            have hag : isAggB P e = some false := by simp [isAggB, hue]
            refine ⟨rfl, fun w => ⟨.int kk xs[W.toNat n], ?_, ?_⟩⟩
            · simp only [Instr.index, asIntOf, Sem.run_bind, Sem.run_pure, Result.andThen_ok, run_underlying hu]
              rw [if_pos ⟨h0, h1⟩]
              simp only [Sem.run_bind, sizeB_run hsz, Result.andThen_ok, Nat.mul_one]
              rw [show cs = cs.toList.toArray by simp, part_run hag hsz (by simp [hlc]; unfold W.toNat at hin; omega) (by simp) w]
              simp only [mkv, hag]
              unfold W.toNat at h4 ⊢
              simp [List.head?_drop, List.take_one, h4] 
            · rw [get_lt hin]; exact VR.int' hw
          · exact hf.elim
        · exact he.elim
      · exact he.elim
    · exact he.elim

set_option maxHeartbeats 4000000 in
theorem op_sound {C : Cfg} (hC : CfgOk C) {a : Go.Act} {o : Oper} {ρ : Operand → V} (hr : HR Φ w1 π h w) (hρ : ∀ x ∈ o.op.operands, VR Φ π (ρ x) (a.eval x))
    (he : EffTo C.P slot h (opAct C o.op ρ h) v u) : Good C.P o a w (Post Φ w1 π h v u) := by
  obtain ⟨dst, op, ty, pos, after, guard⟩ := o
  cases op <;> simp only [opAct] at he <;> (try (exact he.elim))
  case move x =>
    obtain ⟨rfl, rfl⟩ := he
    exact Good.value (c := a.eval x) rfl (Post.mk (Pi.le_refl _) hr (hρ x (by simp [Op.operands])))
  case assign x =>
    obtain ⟨rfl, rfl⟩ := he
    exact Good.value (c := a.eval x) rfl (Post.mk (Pi.le_refl _) hr (hρ x (by simp [Op.operands])))
  case alloc e =>
    split at he
    · rename_i z hz
      split at he
      · rename_i hk
        obtain ⟨c, hc, hv⟩ := zeroB_run (Φ := Φ) (π := π) hz
        obtain ⟨π', h1, h2, h3⟩ := newVar_sound hr (VR.cells hv (known_ne hk)) he
        exact Good.value (c := pv w.heap.size 0) (w' := { w with heap := w.heap.push (.cells c.cells e) }) (by simp [execOp, Instr.alloc, hc, newVar, newRow, pv]) (Post.mk h1 h2 h3)
      · exact he.elim
    · exact he.elim
  case box e x =>
    split at he
    · rename_i hk
      have hv := hρ x (by simp [Op.operands])
      obtain ⟨π', h1, h2, h3⟩ := newVar_sound hr (VR.cells hv (known_ne hk)) he
      exact Good.value (c := pv w.heap.size 0) (w' := { w with heap := w.heap.push (.cells (a.eval x).cells e) }) (by simp [execOp, Instr.box, newVar, newRow, pv]) (Post.mk h1 h2 h3)
    · exact he.elim
  case build t ps =>
    refine Good.gives (x := Instr.build t (ps.map fun p => (p.1, a.eval p.2))) rfl hr (build_sound (by simp) ?_ he)
    have := VRL.map (Φ := Φ) (π := π) (ρ := ρ) (ρ' := a.eval) (ps.toList.map (·.2)) (fun x hx => hρ x (by simpa [Op.operands] using hx))
    simpa [List.map_map, Function.comp_def] using this
  case buildSlice t len ps =>
    refine Good.post (x := Instr.buildSlice t len (ps.map fun p => (p.1, a.eval p.2))) rfl (buildSlice_sound hr (by simp) ?_ he)
    have := VRL.map (Φ := Φ) (π := π) (ρ := ρ) (ρ' := a.eval) (ps.toList.map (·.2)) (fun x hx => hρ x (by simpa [Op.operands] using hx))
    simpa [List.map_map, Function.comp_def] using this
  case load t x =>
    obtain ⟨rfl, cv, h1, h2⟩ := load_sound hr (hρ x (by simp [Op.operands])) he
    exact Good.value (c := cv) (w' := w) (by simp [execOp, h1]) (Post.mk (Pi.le_refl _) hr h2)
  case store t x y =>
    obtain ⟨rfl, w', π', h1, h2, h3⟩ := store_sound hr (hρ x (by simp [Op.operands])) (hρ y (by simp [Op.operands])) he
    exact Good.skip (w' := w') (by simp [execOp, h1]) (Post.mk h2 h3 (VR.tup0 rfl))
  case nilCheck x =>
    have hv := hρ x (by simp [Op.operands])
    obtain ⟨rfl, rfl, hm⟩ := nil_sound hv he
    refine Good.value (c := a.eval x) (w' := w) ?_ (Post.mk (Pi.le_refl _) hr hv)
    simp only [execOp]
    rcases hm with ⟨_, e⟩ | ⟨_, _, e⟩ | ⟨_, _, _, e⟩ | ⟨_, _, e⟩ <;> rw [e] <;> rfl
  case binOp op t x y yt =>
    have hx := hρ x (by simp [Op.operands])
    have hy := hρ y (by simp [Op.operands])
    have hexec : ∀ (dst : Option Tmp), execOp a.eval { dst, op := .binOp op t x y yt, type := ty, pos, after, guard } = (do pure (.value (← (do eqGuard op t x y (a.eval x) (a.eval y); binOp op t (a.eval x) (a.eval y))))) := fun _ => rfl
    split at he
    · rename_i op0
      split at he
      · rename_i c hc
        obtain ⟨rfl, rfl⟩ := he
        exact Good.gives (hexec dst) hr ⟨rfl, by simpa using same_sound (.inl rfl) hx hy hc⟩
      · exact Good.gives (hexec dst) hr (bin_sound hx hy he x y)
    · split at he
      · rename_i c hc
        obtain ⟨rfl, rfl⟩ := he
        exact Good.gives (hexec dst) hr ⟨rfl, by simpa [W.not] using same_sound (.inr rfl) hx hy hc⟩
      · exact Good.gives (hexec dst) hr (bin_sound hx hy he x y)
    · exact Good.gives (hexec dst) hr (bin_sound hx hy he x y)
  case unOp op t x => exact Good.gives (x := Op.unary op (a.eval x)) rfl hr (un_sound (hρ x (by simp [Op.operands])) he)
  case convert s d x =>
    obtain ⟨rfl, cv, h1, h2⟩ := conv_sound hr (hρ x (by simp [Op.operands])) he
    exact Good.value (c := cv) (w' := w) (by simp [execOp, h1]) (Post.mk (Pi.le_refl _) hr h2)
  case makeInterface t x =>
    have hv := hρ x (by simp [Op.operands])
    split at he
    · exact he.elim
    · exact he.elim
    · rename_i h1 h2
      obtain ⟨rfl, rfl⟩ := he
      cases hu : C.P.underlying t with
      | none => exact absurd hu h2
      | some d =>
        refine Good.value (c := .iface t (a.eval x)) (w' := w) ?_ (Post.mk (Pi.le_refl _) hr (by simp only [VR]; exact ⟨_, rfl, hv⟩))
        cases d <;> first
          | exact absurd hu (h1 _)
          | simp [execOp, Instr.makeInterface, run_underlying hu]
  case makeFunc fn first cap =>
    cases fn with
    | func f =>
      simp only at he
      split at he
      · rename_i hfirst
        obtain ⟨rfl, rfl⟩ := he
        have hf0 : first = #[] := by simpa using hfirst
        subst hf0
        refine Good.value (c := .func (.func f) #[] (cap.map a.eval)) (w' := w) (by simp [execOp, Instr.makeFunc]) (Post.mk (Pi.le_refl _) hr ?_)
        simp only [VR]
        refine ⟨_, rfl, ?_⟩
        have := VRL.map (Φ := Φ) (π := π) (ρ := ρ) (ρ' := a.eval) cap.toList (fun x hx => hρ x (by simpa [Op.operands] using hx))
        simpa using this
      · exact he.elim
    | methodOf t name =>
      simp only at he
      split at he
      · rename_i hfirst
        obtain ⟨rfl, rfl⟩ := he
        simp only [Bool.and_eq_true] at hfirst
        have hf0 : first = #[] := by simpa using hfirst.1
        have hc0 : cap = #[] := by simpa using hfirst.2
        subst hf0 hc0
        exact Good.value (c := .func (.methodOf t name) #[] #[]) (w' := w) (by simp [execOp, Instr.makeFunc]) (Post.mk (Pi.le_refl _) hr (by simp [VR]))
      · exact he.elim
    | method => exact he.elim
    | via => exact he.elim
    | yield => exact he.elim
  case makeSlice t n c =>
    exact Good.post (x := Instr.makeSlice t (a.eval n) (a.eval c)) rfl (make_sound hr (hρ n (by simp [Op.operands])) (hρ c (by simp [Op.operands])) sameO_sound he)
  case slice t x lo hi mx =>
    exact Good.gives (x := Instr.sliceAt t (a.eval x) (lo.map a.eval) (hi.map a.eval) (mx.map a.eval)) rfl hr
      (slice_sound (hρ x (by simp [Op.operands])) (fun y hy => hρ y (by subst hy; simp [Op.operands])) (fun y hy => hρ y (by subst hy; simp [Op.operands])) (fun y hy => hρ y (by subst hy; simp [Op.operands])) he)
  case fieldAddr t x f => exact Good.gives (x := Instr.fieldAt t (a.eval x) f) rfl hr (field_sound (hρ x (by simp [Op.operands])) he)
  case field t x f => exact Good.gives (x := Instr.field t (a.eval x) f) rfl hr (fieldOf_sound (hρ x (by simp [Op.operands])) he)
  case indexAddr t x i => exact Good.gives (x := Instr.indexAt t (a.eval x) (a.eval i)) rfl hr (index_sound (hρ x (by simp [Op.operands])) (hρ i (by simp [Op.operands])) he)
  case index t x i => exact Good.gives (x := Instr.index t (a.eval x) (a.eval i)) rfl hr (idx_sound (hρ x (by simp [Op.operands])) (hρ i (by simp [Op.operands])) he)
  case typeAssert x xt t ok => exact Good.gives (x := Instr.typeAssert (a.eval x) xt t ok) rfl hr (assert_sound (hρ x (by simp [Op.operands])) he)
  case makeMap t n =>
    cases n with
    | none => exact Good.post (x := Instr.makeMap t none) rfl (newMap_sound hr he)
    | some n => exact he.elim
  case insert t m k x =>
    obtain ⟨rfl, w', h1, h2⟩ := insert_sound hr (hρ m (by simp [Op.operands])) (hρ k (by simp [Op.operands])) (hρ x (by simp [Op.operands])) he
    exact Good.skip (w' := w') (by simp [execOp, h1]) (Post.mk (Pi.le_refl _) h2 (VR.tup0 rfl))
  case mapUpdate t m k x =>
    obtain ⟨rfl, w', h1, h2⟩ := insert_sound hr (hρ m (by simp [Op.operands])) (hρ k (by simp [Op.operands])) (hρ x (by simp [Op.operands])) he
    exact Good.skip (w' := w') (by simp [execOp, h1]) (Post.mk (Pi.le_refl _) h2 (VR.tup0 rfl))
  case lookup t x i ok =>
    obtain ⟨rfl, cv, h1, h2⟩ := lookup_sound hr (hρ x (by simp [Op.operands])) (hρ i (by simp [Op.operands])) he
    exact Good.value (c := cv) (w' := w) (by simp [execOp, h1]) (Post.mk (Pi.le_refl _) hr h2)
  case extract x i =>
    split at he
    · rename_i l hl
      have hx := hρ x (by simp [Op.operands]); rw [hl] at hx; simp only [VR] at hx
      obtain ⟨cs, hcv, hcs⟩ := hx
      split at he
      · rename_i y hy
        obtain ⟨rfl, rfl⟩ := he
        obtain ⟨c, hc, hv⟩ := VRL.get hcs hy
        refine Good.value (c := c) (w' := w) ?_ (Post.mk (Pi.le_refl _) hr hv)
        simp [execOp, Instr.extract, hcv]
        rw [show cs[i]? = some c by simpa using hc]; rfl
      · exact he.elim
    · exact he.elim
  case call c =>
    obtain ⟨callee, args, ts⟩ := c
    cases callee with
    | value f =>
      have hargs := VRL.map (Φ := Φ) (π := π) (ρ := ρ) (ρ' := a.eval) args.toList (fun x hx => hρ x (by simp only [Op.operands, Call.operands]; simp; exact .inr (by simpa using hx)))
      exact callAct_sound hC rfl hr (hρ f (by simp [Op.operands, Call.operands])) hargs he
    | invoke r m =>
      have hargs := VRL.map (Φ := Φ) (π := π) (ρ := ρ) (ρ' := a.eval) args.toList (fun x hx => hρ x (by simp only [Op.operands, Call.operands]; simp; exact .inr (by simpa using hx)))
      exact invokeAct_sound hC rfl hr (hρ r (by simp [Op.operands, Call.operands])) hargs he
    | builtin b =>
      have hargs := VRL.map (Φ := Φ) (π := π) (ρ := ρ) (ρ' := a.eval) args.toList (fun x hx => hρ x (by simp only [Op.operands, Call.operands]; simpa using hx))
      exact builtinAct_sound hr hargs he
end
end Go.Eng
