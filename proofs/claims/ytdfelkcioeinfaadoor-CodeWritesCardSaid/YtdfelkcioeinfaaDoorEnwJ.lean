/- The engine, part J: new slices, append, copy. -/
import Derived.Test.YtdfelkcioeinfaaDoorEnwI
set_option linter.unusedVariables false
set_option linter.unusedSimpArgs false
namespace Go.Eng
open Go Go.RowKit

section
variable {Φ : Fr} {w w' w1 : World} {π : Pi} {P : Program} {h : List Blk} {slot : Nat} {v : V} {u : Upd}

theorem HR.newFz (hr : HR Φ w1 π h w) {g off : Nat} (hg : w.heap.size ≤ g) (x : Bool) : Φ x g off = none := by
  cases hq : Φ x g off with
  | none => rfl
  | some u =>
    have := hr.fz x _ _ _ hq
    simp only [World.cell?] at this
    split at this
    · rename_i hb; have h2 : g < w.heap.size := (Array.getElem?_eq_some_iff.1 hb).1; omega
    · cases this

def killB : List Blk → List Nat → List Blk
  | h, [] => h
  | h, b :: r => killB (h.set b .dead) r
theorem killB_length : ∀ (l : List Nat) (h : List Blk), (killB h l).length = h.length
  | [], h => rfl
  | b :: l, h => by simp [killB, killB_length l]
theorem killB_get : ∀ (l : List Nat) (h : List Blk) (q : Nat), (∀ b ∈ l, b < h.length) → (killB h l)[q]? = if q ∈ l then some .dead else h[q]?
  | [], h, q, _ => by simp [killB]
  | b :: l, h, q, hl => by
    simp only [killB]
    rw [killB_get l _ q (by intro b' hb'; simp; exact hl b' (by simp [hb']))]
    by_cases h1 : q ∈ l
    · rw [if_pos h1, if_pos (by simp [h1])]
    · rw [if_neg h1]
      by_cases h2 : q = b
      · subst h2; rw [if_pos (by simp), List.getElem?_set_self (hl q (by simp))]
      · rw [if_neg (by simp [h1, h2]), List.getElem?_set_ne (fun e => h2 e.symm)]
/-- Blocks die, and a new one takes their cells over, or lies in new memory. -/
theorem HR.move (hr : HR Φ w1 π h w) {S : Nat → Nat → Prop} (ht : Turn w w' S) (hfree : h[slot]? = some .free) (olds : List Nat)
    (hold : ∀ b ∈ olds, ∃ blk A, h[b]? = some blk ∧ blk.owns = true ∧ π b = some A)
    (hS : ∀ g off, S g off → ∃ b ∈ olds, ∃ A, π b = some A ∧ A.has g off)
    (B : At) (blk : Blk) (ho : blk.owns = true) (hB : ∀ π' : Pi, π.le π' → π' slot = some B → BR Φ π' w' B blk)
    (hBh : ∀ g off, B.has g off → (∃ b ∈ olds, ∃ A, π b = some A ∧ A.has g off) ∨ (w.heap.size ≤ g ∧ g < w'.heap.size)) :
    ∃ π', π.le π' ∧ HR Φ w1 π' ((killB h olds).set slot blk) w' ∧ π' slot = some B := by
  have hls : slot < h.length := (List.getElem?_eq_some_iff.1 hfree).1
  have hpf := hr.free slot (.inr hfree)
  have hlt : ∀ b ∈ olds, b < h.length := fun b hb => by obtain ⟨blk, A, e, _⟩ := hold b hb; exact (List.getElem?_eq_some_iff.1 e).1
  have hns : slot ∉ olds := fun hm => by obtain ⟨blk, A, e, e2, _⟩ := hold slot hm; rw [hfree] at e; cases e; cases e2
  have hget : ∀ q, ((killB h olds).set slot blk)[q]? = if q = slot then some blk else if q ∈ olds then some .dead else h[q]? := by
    intro q
    by_cases e : q = slot
    · subst e; rw [if_pos rfl, List.getElem?_set_self (by rw [killB_length]; exact hls)]
    · rw [if_neg e, List.getElem?_set_ne (fun e' => e e'.symm), killB_get _ _ _ hlt]
  let π' : Pi := fun q => if q = slot then some B else π q
  have hle : π.le π' := by
    intro q Q hq
    show (if q = slot then some B else π q) = some Q
    rw [if_neg (by intro e; subst e; rw [hpf] at hq; cases hq)]; exact hq
  have hps : π' slot = some B := if_pos rfl
  have hpo : ∀ q, q ≠ slot → π' q = π q := fun q hq => if_neg hq
  have hown : ∀ b ∈ olds, ∀ A, π b = some A → ∀ g off, A.has g off → w1.heap.size ≤ g ∧ g < w.heap.size ∧ ∀ x, Φ x g off = none := by
    intro b hb A hA
    obtain ⟨blk', A', e1, e2, e3⟩ := hold b hb
    rw [hA] at e3; cases e3
    exact hr.own b blk' A e1 e2 hA
  have hSw : ∀ g off, S g off → w1.heap.size ≤ g ∧ ∀ x, Φ x g off = none := by
    intro g off hs
    obtain ⟨b, hb, A, hA, hh⟩ := hS g off hs
    exact ⟨(hown b hb A hA g off hh).1, (hown b hb A hA g off hh).2.2⟩
  refine ⟨π', hle, hr.master ht (fun g off e => (hSw g off e).1) (hr.fzTurn ht fun g off e => (hSw g off e).2) (Fr.le_refl _) hle (fun q => q = slot ∨ q ∈ olds) ?_ ?_ ?_ ?_ ?_ ?_ ?_, hps⟩
  · intro q hq
    simp only [not_or] at hq
    exact ⟨by rw [hget, if_neg hq.1, if_neg hq.2], hpo q hq.1⟩
  · intro q hq hb
    rw [hget] at hb
    split at hb
    · rcases hb with hb | hb
      · cases hb
      · simp at hb; subst hb; cases ho
    · rename_i hne
      rw [if_pos (hq.resolve_left hne)] at hb
      rcases hb with hb | hb <;> cases hb
  · intro q blk' hq hb hne
    rw [hget] at hb
    split at hb
    · rename_i e; subst e; cases hb
      exact ⟨B, hps, hB π' hle hps⟩
    · rename_i e
      have hm := hq.resolve_left e
      rw [if_pos hm] at hb; cases hb
      obtain ⟨blk'', A, _, _, e3⟩ := hold q hm
      exact ⟨A, by rw [hpo q e]; exact e3, trivial⟩
  · intro q blk' Q hq hb ho' hQ g off hh
    rw [hget] at hb
    split at hb
    · rename_i e; subst e; rw [hps] at hQ; cases hQ
      rcases hBh g off hh with ⟨b, hb, A, hA, hh'⟩ | ⟨h1, h2⟩
      · obtain ⟨h1, h2, h3⟩ := hown b hb A hA g off hh'
        exact ⟨h1, Nat.lt_of_lt_of_le h2 ht.size, h3⟩
      · exact ⟨Nat.le_trans hr.below.size h1, h2, fun x => hr.newFz h1 x⟩
    · rename_i e
      rw [if_pos (hq.resolve_left e)] at hb; cases hb; cases ho'
  · intro q q' blk1 blk2 Q Q' hq hq' hne h1 o1 h2 o2 _ _
    exfalso
    have key : ∀ q blk1, (q = slot ∨ q ∈ olds) → ((killB h olds).set slot blk)[q]? = some blk1 → blk1.owns = true → q = slot := by
      intro q blk1 hq h1 o1
      rcases hq with rfl | hm
      · rfl
      · rw [hget, if_neg (fun e : q = slot => hns (e ▸ hm)), if_pos hm] at h1; cases h1; cases o1
    exact hne ((key q blk1 hq h1 o1).trans (key q' blk2 hq' h2 o2).symm)
  · intro q q' blk1 blk2 Q Q' hq hq' h1 o1 h2 o2 hQ hQ' g off hh hh'
    simp only [not_or] at hq'
    have hqs : q = slot := by
      rcases hq with rfl | hm
      · rfl
      · rw [hget, if_neg (fun e : q = slot => hns (e ▸ hm)), if_pos hm] at h1; cases h1; cases o1
    subst hqs
    rw [hps] at hQ; cases hQ
    rcases hBh g off hh with ⟨b, hb, A, hA, hh''⟩ | ⟨h3, h4⟩
    · obtain ⟨blk', A', e1, e2, e3⟩ := hold b hb
      rw [hA] at e3; cases e3
      exact hr.apart b q' _ _ A Q' e1 e2 h2 o2 (fun e => hq'.2 (e ▸ hb)) hA hQ' g off hh'' hh'
    · have := (hr.own q' blk2 Q' h2 o2 hQ' g off hh').2.1; omega
  · intro q blk1 Q hq h1 o1 hQ g off hh
    simp only [not_or] at hq
    refine ⟨fun hs => ?_, (hr.own q blk1 Q h1 o1 hQ g off hh).2.2⟩
    obtain ⟨b, hb, A, hA, hh'⟩ := hS g off hs
    obtain ⟨blk', A', e1, e2, e3⟩ := hold b hb
    rw [hA] at e3; cases e3
    exact hr.apart q b _ _ Q A h1 o1 e1 e2 (fun e => hq.2 (e ▸ hb)) hQ hA g off hh hh'

theorem elemT_sound {e : TypeId} {T : Ty} (h : elemT P e = some T) : 0 < T.size ∧ sizeB P e = some T.size := by
  unfold elemT at h
  split at h
  · split at h
    · rename_i hc
      simp only [Bool.and_eq_true, decide_eq_true_eq, beq_iff_eq] at hc
      cases h; exact hc
    · cases h
  · cases h
theorem zeroT_sound {e : TypeId} {T : Ty} {x0 : T.D} (h : zeroT P e T = some x0) : ∃ i z, P.info? e = some i ∧ i.zero = some z ∧ ∀ F, TR F T x0 z.cells.toList := by
  unfold zeroT zeroB at h
  cases hi : P.info? e with
  | none => simp [hi] at h
  | some i =>
    cases hz : i.zero with
    | none => simp [hi, hz] at h
    | some z =>
      simp only [hi, hz, Option.bind_some, Option.map_some] at h
      split at h
      · rename_i hk
        exact ⟨i, z, rfl, hz, fun F => decOne_sound (Φ := fun _ => F) (π := fun _ => none) (by simp) h (VR.cells (ofConst_sound z) (known_ne hk))⟩
      · cases h
theorem run_room (n : Nat) (w : World) : (askRoom n).run P w = .ok () w := by
  unfold askRoom; split
  · simp [mark, Sem.run]
  · rfl
theorem wrap_id {n : Int} (h0 : 0 ≤ n) (h1 : n ≤ 281474976710656) : IntKind.i64.wrap n = n := by
  simp [IntKind.wrap, IntKind.bits, IntKind.signed]
  omega
theorem bytes_bound {b n : Int} (hb : 1 ≤ b) (hn : 0 ≤ n) (h : b * n ≤ 281474976710656) : n ≤ 281474976710656 := by
  have : 1 * n ≤ b * n := Int.mul_le_mul_of_nonneg_right hb hn
  omega
theorem make_run {t e : TypeId} {i : TypeInfo} {z : Value} (hu : P.underlying t = some (.slice e)) (hi : P.info? e = some i) (hz : i.zero = some z) {k k' : IntKind} {n c : Int} (h0 : 0 ≤ n) (h1 : n ≤ c) (hb : 1 ≤ i.bytes) (h2 : (i.bytes : Int) * c ≤ 281474976710656) (w : World) :
    ∃ cells : Array Value, (Instr.makeSlice t (.int k n) (.int k' c)).run P w = .ok (.slice (some ⟨w.heap.size, 0, none⟩) n.toNat c.toNat) { w with heap := w.heap.push (.cells cells e) } ∧
      cells.size = c.toNat * i.size ∧ ∀ j, j < c.toNat * i.size → cells[j]? = some (z.cells[j % z.cells.size]!) := by
  have hc : c ≤ 281474976710656 := bytes_bound (by omega) (by omega) h2
  have ec := wrap_id (n := c) (by omega) hc
  have en := wrap_id (n := n) h0 (by omega)
  have hnot : ¬ ((decide (c < 0) || decide ((i.bytes : Int) * c > 2 ^ 48)) = true ∨ n < 0 ∨ n > c) := by
    simp; omega
  by_cases hn0 : c.toNat * i.size = 0
  · refine ⟨#[], ?_, by simp [hn0], fun j hj => by omega⟩
    simp only [Instr.makeSlice, Sem.run_bind, run_underlying hu, Result.andThen_ok, asInt, asIntOf, Sem.run_pure, typeInfo, run_program, hi, ec, en]
    rw [if_neg (by simpa [Bool.or_eq_true, or_assoc] using hnot)]
    simp only [run_room, sizeOf, typeInfo, hi, hn0, newRow, if_true, Sem.run_bind, Sem.run_pure, Result.andThen_ok, run_program]
    simp
    have h00 : Array.map (fun (_ : Nat) => (default : Value)) (Array.range 0) = #[] := by apply Array.ext'; simp
    rw [h00]
  · refine ⟨(Array.range (c.toNat * i.size)).map (fun j => z.cells[j % z.cells.size]!), ?_, by simp, fun j hj => by simp [hj]⟩
    simp only [Instr.makeSlice, Sem.run_bind, run_underlying hu, Result.andThen_ok, asInt, asIntOf, Sem.run_pure, typeInfo, run_program, hi, ec, en]
    rw [if_neg (by simpa [Bool.or_eq_true, or_assoc] using hnot)]
    simp [run_room, sizeOf, typeInfo, hi, hn0, newRow, zeroValue, hz]

theorem rep_length {α : Type} {n : Nat} {x : α} : (W.rep n x).length = n := by simp [W.rep]
theorem rep_get {α : Type} {n : Nat} {x : α} {i : Nat} (h : i < (W.rep n x).length) : (W.rep n x)[i] = x := by simp [W.rep]
theorem mod_cell {i s j : Nat} (hj : j < s) : (i * s + j) % s = j := by
  rw [Nat.add_comm, Nat.add_mul_mod_self_right, Nat.mod_eq_of_lt hj]

/-- What an operation comes to, as the walk of a region asks. -/
def Good (P : Program) (o : Oper) (a : Go.Act) (w : World) (R : Value → World → Prop) : Prop :=
  ∀ K Q, (∀ c w', R c w' → K (a.put o.dst c) w') → o.wp P a w K Q
theorem Good.value {o : Oper} {a : Go.Act} {R : Value → World → Prop} {c : Value} {w' : World} (hr : (execOp a.eval o).run P w = .ok (.value c) w') (h : R c w') : Good P o a w R := by
  intro K Q hk; unfold Oper.wp; rw [hr]; exact hk c w' h
theorem Good.skip {o : Oper} {a : Go.Act} {R : Value → World → Prop} {w' : World} (hr : (execOp a.eval o).run P w = .ok .skip w') (h : R undef w') : Good P o a w R := by
  intro K Q hk; unfold Oper.wp; rw [hr]; exact hk _ w' h
theorem Good.enter {o : Oper} {a : Go.Act} {R : Value → World → Prop} {g : FuncId} {args : Array Value} (hr : (execOp a.eval o).run P w = .ok (.enter g args) w)
    (h : Calls P g args w fun e w' => ∃ c, e = .returned c ∧ R c w') : Good P o a w R := by
  intro K Q hk; unfold Oper.wp; rw [hr]
  exact h.mono fun e w' ⟨c, he, hc⟩ => by subst he; exact hk c w' hc

/-- What is asked of the world behind an operation. -/
def Post (Φ : Fr) (w1 : World) (π : Pi) (h : List Blk) (v : V) (u : Upd) (c : Value) (w' : World) : Prop :=
  ∃ Φ' π', Fr.ext w1.heap.size Φ Φ' ∧ π.le π' ∧ HR Φ' w1 π' (u.on h) w' ∧ VR Φ' π' v c
theorem Post.mk {c : Value} {π' : Pi} (h1 : π.le π') (h2 : HR Φ w1 π' (u.on h) w') (h3 : VR Φ π' v c) : Post Φ w1 π h v u c w' := ⟨Φ, π', Fr.ext.refl _ _, h1, h2, h3⟩

theorem isFree_all {h : List Blk} (hf : allFree h slot 1 = true) : h[slot]? = some .free := by
  simp only [allFree, Bool.and_true] at hf; exact isFree_iff.1 hf
theorem setN_one {h : List Blk} {b : Blk} : setN h slot [b] = h.set slot b := rfl

theorem make_sound {t : TypeId} {same : Bool} {n c : V} {cn cc : Value} (hr : HR Φ w1 π h w) (hn : VR Φ π n cn) (hc : VR Φ π c cc) (hs : same = true → cn = cc) (he : EffTo P slot h (makeAct P t same n c) v u) :
    ∃ cv w', (Instr.makeSlice t cn cc).run P w = .ok cv w' ∧ Post Φ w1 π h v u cv w' := by
  unfold makeAct at he
  split at he
  · rename_i e k n k' c hu
    simp only [VR] at hn hc
    obtain ⟨rfl, hwn⟩ := hn
    obtain ⟨rfl, hwc⟩ := hc
    split at he
    · exact he.elim
    rename_i hbz
    have hok : ∀ {q : Bool}, q = (if same then W.and2 (W.le 0 n) (W.le (W.mul (W.ofNat (bytesB P e)) n) room) else W.and2 (W.le 0 n) (W.and2 (W.le n c) (W.le (W.mul (W.ofNat (bytesB P e)) c) room))) → q = true → 0 ≤ n ∧ n ≤ c ∧ (bytesB P e : Int) * c ≤ 281474976710656 := by
      rintro q hq rfl
      cases same with
      | true =>
        have := hs rfl
        simp only [Value.int.injEq] at this
        obtain ⟨_, rfl⟩ := this
        simp only [if_true] at hq
        have := hq.symm
        simp only [W.and2_t, W.le_t, W.mul, W.ofNat, room] at this
        exact ⟨this.1, Int.le_refl _, this.2⟩
      | false =>
        simp only [Bool.false_eq_true, if_false] at hq
        have := hq.symm
        simp only [W.and2_t, W.le_t, W.mul, W.ofNat, room] at this
        exact ⟨this.1, this.2.1, this.2.2⟩
    dsimp only at he
    generalize hq : (if same then W.and2 (W.le 0 n) (W.le (W.mul (W.ofNat (bytesB P e)) n) room) else W.and2 (W.le 0 n) (W.and2 (W.le n c) (W.le (W.mul (W.ofNat (bytesB P e)) c) room))) = q at he hok
    split at he
    · rename_i T hT
      split at he
      · rename_i hs1 hz1
        rcases he with ⟨hb, hf, rfl, rfl⟩ | ⟨_, hf⟩
        · obtain ⟨h0, h1, h2⟩ := hok rfl hb
          unfold zeroB at hz1
          cases hi : P.info? e with
          | none => simp [hi] at hz1
          | some i =>
            cases hzz : i.zero with
            | none => simp [hi, hzz] at hz1
            | some z =>
              simp only [hi, hzz, Option.bind_some, Option.map_some, Option.some.injEq] at hz1
              have hzv : z = .slice none 0 0 := by
                have := ofConst_sound (Φ := Φ) (π := π) z
                rw [hz1] at this
                simpa [VR] using this
              subst hzv
              have hsize : i.size = 1 := by simpa [sizeB, hi] using hs1
              have hby : bytesB P e = i.bytes := by simp [bytesB, hi]
              rw [hby] at hbz h2
              simp at hbz
              obtain ⟨cells, hrun, hcs, hcell⟩ := make_run (k := k) (k' := k') hu hi hzz h0 h1 (by omega) h2 w
              refine ⟨_, _, hrun, ?_⟩
              have hTs : 0 < T.size := by
                unfold ownT at hT
                split at hT
                · exact (elemT_sound hT).1
                · cases hT
              rw [hsize, Nat.mul_one] at hcs hcell
              have hcc : c.toNat ≤ maxLen := by
                have := bytes_bound (b := i.bytes) (n := c) (by omega) (by omega) h2
                simp only [maxLen]; omega
              have hcl : ∀ j, j < c.toNat → wcell { w with heap := w.heap.push (.cells cells e) } w.heap.size j = some (.slice none 0 0) := by
                intro j hj
                rw [wcell_some (c := cells) (e := e) (by simp), hcell j hj]
                simp [Value.cells, Nat.mod_one]
              have hfree := isFree_all hf
              obtain ⟨π', g1, g2, g3⟩ := hr.move (S := fun _ _ => False) (Turn.push w _ _) hfree [] (by simp) (by simp) ⟨w.heap.size, 0, c.toNat, n.toNat, 1, T.size, List.replicate n.toNat (none, 0)⟩ (.rows T (W.rep (W.toNat n) [])) rfl
                (by
                  intro π' _ _
                  simp only [BR, rep_length, W.toNat, List.length_replicate]
                  refine ⟨trivial, trivial, trivial, hTs, by omega, trivial, ⟨fun i r m hi => ?_, fun i j r q m k hi => ?_⟩, fun j hj => ?_, fun j hj => ?_⟩
                  · simp [List.getElem?_replicate] at hi
                  · simp [List.getElem?_replicate] at hi
                  · rw [Nat.zero_add]; exact ⟨_, hcl j hj⟩
                  · refine ⟨none, _, ?_, by rw [Nat.zero_add]; exact hcl j (by omega), none, 0, ?_⟩
                    · rw [rep_get]; simp [List.getElem?_replicate, hj]
                    · rw [rep_get]; exact ⟨rfl, by simp, by simp, fun h => by simp at h⟩)
                (by
                  intro g off hh
                  rcases hh with ⟨h3, _⟩ | ⟨i, r, m, hi, _⟩
                  · right; rw [h3]; simp [At.main]
                  · simp [List.getElem?_replicate] at hi)
              refine Post.mk g1 (by simpa [Upd.on, setN_one, killB] using g2) ?_
              simp only [VR, W.toNat]
              exact ⟨_, _, _, g3, rfl, rfl, rfl, by omega, hcc, by simp, fun _ => rfl⟩
        · exact hf.elim
      · exact he.elim
    · split at he
      · rename_i T hT
        split at he
        · rename_i x0 hx0
          rcases he with ⟨hb, hf, rfl, rfl⟩ | ⟨_, hf⟩
          · obtain ⟨h0, h1, h2⟩ := hok rfl hb
            obtain ⟨hTs, hsz⟩ := elemT_sound hT
            obtain ⟨i, z, hi, hzz, hTR⟩ := zeroT_sound hx0
            have hsize : i.size = T.size := by simpa [sizeB, hi] using hsz
            have hby : bytesB P e = i.bytes := by simp [bytesB, hi]
            rw [hby] at hbz h2
            simp at hbz
            obtain ⟨cells, hrun, hcs, hcell⟩ := make_run (k := k) (k' := k') hu hi hzz h0 h1 (by omega) h2 w
            refine ⟨_, _, hrun, ?_⟩
            rw [hsize] at hcs hcell
            have hcc : c.toNat ≤ maxLen := by
              have := bytes_bound (b := i.bytes) (n := c) (by omega) (by omega) h2
              simp only [maxLen]; omega
            have hzl : z.cells.size = T.size := by have := TR.length (hTR (Φ false)); simpa using this
            have hcl : ∀ j, j < c.toNat * T.size → wcell { w with heap := w.heap.push (.cells cells e) } w.heap.size j = some (z.cells[j % T.size]!) := by
              intro j hj
              rw [wcell_some (c := cells) (e := e) (by simp), hcell j hj, hzl]
            have hfree := isFree_all hf
            obtain ⟨π', g1, g2, g3⟩ := hr.move (S := fun _ _ => False) (Turn.push w _ _) hfree [] (by simp) (by simp) ⟨w.heap.size, 0, c.toNat * T.size, n.toNat, T.size, 0, []⟩ (.row T (W.rep (W.toNat n) x0)) rfl
              (by
                intro π' _ _
                simp only [BR, rep_length, W.toNat]
                refine ⟨trivial, trivial, trivial, hTs, Nat.mul_le_mul_right _ (by omega), fun j hj => ⟨_, by rw [Nat.zero_add]; exact hcl j hj⟩, fun j hj => ⟨z.cells.toList, by rw [rep_get]; exact hTR _, fun q u hq => ?_⟩⟩
                rw [rep_length] at hj
                have hql : q < T.size := by have := (List.getElem?_eq_some_iff.1 hq).1; simp at this; omega
                have hlt := el_lt (show j < c.toNat by omega) hql
                rw [Nat.zero_add, hcl _ hlt, mod_cell hql]
                rw [← hq]
                simp [show q < z.cells.size by omega])
              (by
                intro g off hh
                rcases hh with ⟨h3, _⟩ | ⟨i, r, m, hi, _⟩
                · right; rw [h3]; simp [At.main]
                · simp at hi)
            refine Post.mk g1 (by simpa [Upd.on, setN_one, killB] using g2) ?_
            simp only [VR, W.toNat]
            exact ⟨_, _, _, g3, rfl, rfl, rfl, by omega, hcc, Nat.le_refl _, fun _ => rfl⟩
          · exact hf.elim
        · exact he.elim
      · exact he.elim
  · exact he.elim
end
end Go.Eng
