/- The engine, part O: maps, values behind interfaces, what is lent and what is given away. -/
import Derived.Test.YtdfelkcioeinfaaDoorEnwN
import Derived.MapKept
import Derived.Stop.Asserts
set_option linter.unusedVariables false
set_option linter.unusedSimpArgs false
namespace Go.Eng
open Go Go.RowKit

section
variable {Φ Ψ : Fr} {w w' w1 : World} {π : Pi} {P : Program} {h : List Blk} {slot : Nat} {v : V} {u : Upd}

/-! ### maps -/
theorem newMap_sound (hr : HR Φ w1 π h w) {t : TypeId} (he : EffTo P slot h (.new [.map []] (.map ·)) v u) : ∃ cv w', (Instr.makeMap t none).run P w = .ok cv w' ∧ Post Φ w1 π h v u cv w' := by
  obtain ⟨hf, rfl, rfl⟩ := he
  refine ⟨.map (some w.heap.size), { w with heap := w.heap.push (.map #[] 0) }, rfl, ?_⟩
  obtain ⟨π', q1, q2, q3⟩ := hr.move (S := fun _ _ => False) (Turn.push w (.map #[] 0) _) (isFree_all hf) [] (by simp) (by simp) ⟨w.heap.size, 0, 1, 0, 0, 0, []⟩ (.map []) rfl
    (by
      intro π' _ _
      simp only [BR, true_and]
      exact ⟨#[], 0, by simp, by simp [VRL], by simp [VRL]⟩)
    (by
      intro g off hh
      rcases hh with ⟨h3, _⟩ | ⟨i, r, m, hi, _⟩
      · right; rw [h3]; simp [At.main]
      · simp at hi)
  refine Post.mk q1 (by simpa [Upd.on, setN_one, killB] using q2) ?_
  simp only [VR]
  exact ⟨_, q3, rfl⟩
theorem checkKey_int {kt : TypeId} {k k' : IntKind} {n : Int} (hd : P.underlying kt = some (.int k')) (e : Bool) (m : Nat) (w : World) : (Instr.checkKey e (m + 1) kt (.int k n)).run P w = .ok () w := by
  unfold Instr.checkKey
  simp [run_underlying hd]
theorem newKey_find {k2 k : IntKind} {n : Int} : ∀ {es : List (V × V)} {ents : List MapEntry} {j : Nat}, newKey k n es = true → VRL Φ π (es.map (·.1)) (ents.map (·.key)) → Instr.findNow (.int k2) (.int k n) ents j = some none
  | [], [], j, _, _ => rfl
  | [], _ :: _, _, _, hv => by simp [VRL] at hv
  | _ :: _, [], _, _, hv => by simp [VRL] at hv
  | (a, b) :: es, x :: ents, j, hn, hv => by
    simp only [List.map_cons, VRL] at hv
    cases a <;> simp only [newKey, Bool.and_eq_true, decide_eq_true_eq, Bool.false_eq_true] at hn
    rename_i k' m
    obtain ⟨rfl, h1, h2⟩ := hn
    have hk := hv.1
    simp only [VR] at hk
    have : (n == m) = false := by simpa [W.ne] using h1
    simp [Instr.findNow, Instr.sameNow, hk.1, this, newKey_find h2 hv.2]
theorem insert_sound {t : TypeId} {m k x : V} {cm ck cx : Value} (hr : HR Φ w1 π h w) (hm : VR Φ π m cm) (hk : VR Φ π k ck) (hx : VR Φ π x cx) (he : EffTo P slot h (insertAct P t m k x h) v u) :
    v = .tup [] ∧ ∃ w', (Instr.mapUpdate t cm ck cx).run P w = .ok () w' ∧ HR Φ w1 π (u.on h) w' := by
  unfold insertAct at he
  split at he
  · rename_i kt e b k n hu
    simp only [VR] at hm hk
    obtain ⟨A, hA, rfl⟩ := hm
    obtain ⟨rfl, hw⟩ := hk
    split at he
    · rename_i k2 es hkt hb
      split at he
      · exact he.elim
      rename_i hkn
      rcases he with ⟨hn, h', hh', rfl, rfl⟩ | ⟨_, hf⟩
      · simp only [Option.some.injEq] at hh'; subst hh'
        refine ⟨rfl, ?_⟩
        have hB := hr.get hb (by simp) hA
        simp only [BR] at hB
        obtain ⟨g1, g2, g3, ents, clock, g4, g5, g6⟩ := hB
        have hf := newKey_find (k2 := k2) (j := 0) hn g5
        have hlt := (Array.getElem?_eq_some_iff.1 g4).1
        let o' : Obj := .map (ents.push { key := .int k n, val := cx, born := clock }) (clock + 1)
        refine ⟨{ w with heap := w.heap.setIfInBounds A.g o' }, ?_, ?_⟩
        · simp only [Instr.mapUpdate, Sem.run_bind, run_underlying hu, Result.andThen_ok, Go.MapKept.run_getObj_map g4, checkKey_int hkt, Go.MapKept.run_findKey hkt hf, Go.MapKept.run_setObj_map _ g4]
          rfl
        · have hset := Go.MapKept.heap_set (o' := o') g4
          have hT : Turn w { w with heap := w.heap.setIfInBounds A.g o' } A.has := by
            have hin : A.has A.g 0 := .inl ⟨rfl, by simp only [At.main]; omega, by simp only [At.main]; omega⟩
            refine ⟨rfl, rfl, rfl, by simp, fun g off hg hs => ?_, fun g off hg hs => ?_, fun g off u hu' => ?_, fun g hs hg => ?_, fun g es' ck' hm hs => ?_⟩
            · by_cases e : g = A.g
              · subst e; simp only [World.cell?]; rw [hset.1, g4]
              · simp only [World.cell?]; rw [hset.2 g e]
            · by_cases e : g = A.g
              · subst e; simp only [wcell]; rw [hset.1, g4]
              · simp only [wcell]; rw [hset.2 g e]
            · by_cases e : g = A.g
              · subst e; simp only [wcell, g4] at hu'; cases hu'
              · exact ⟨u, by rw [← hu']; simp only [wcell]; rw [hset.2 g e]⟩
            · by_cases e : g = A.g
              · subst e; exact absurd hin (hs 0)
              · exact hset.2 g e
            · by_cases e : g = A.g
              · subst e; exact absurd hin hs
              · exact hset.2 g e
          simp only [Upd.on]
          refine HR.turn hr hb rfl hA hT ?_ (by simp)
          simp only [BR]
          refine ⟨g1, g2, g3, _, _, hset.1, ?_, ?_⟩
          · simp only [List.map_append, List.map_cons, List.map_nil, Array.toList_push]
            exact VRL.append g5 (by simp only [VRL, VR, and_true]; exact ⟨trivial, hw⟩)
          · simp only [List.map_append, List.map_cons, List.map_nil, Array.toList_push]
            exact VRL.append g6 (by simp only [VRL, and_true]; exact hx)
      · exact hf.elim
    · exact he.elim
  · exact he.elim
theorem look_sound {k2 k : IntKind} {n : Int} {dflt : Eff} {hit : V → Eff} : ∀ {es : List (V × V)} {ents : List MapEntry} {j : Nat}, EffTo P slot h (lookV k n dflt hit es) v u → VRL Φ π (es.map (·.1)) (ents.map (·.key)) → VRL Φ π (es.map (·.2)) (ents.map (·.val)) →
    (Instr.findNow (.int k2) (.int k n) ents j = some none ∧ EffTo P slot h dflt v u) ∨ ∃ i x c, Instr.findNow (.int k2) (.int k n) ents j = some (some (i, c)) ∧ VR Φ π x c ∧ EffTo P slot h (hit x) v u
  | [], [], j, he, _, _ => .inl ⟨rfl, he⟩
  | [], _ :: _, _, _, hv, _ => by simp [VRL] at hv
  | _ :: _, [], _, _, hv, _ => by simp [VRL] at hv
  | (a, b) :: es, x :: ents, j, he, hv, hv2 => by
    simp only [List.map_cons, VRL] at hv hv2
    cases a <;> simp only [lookV] at he <;> (try exact he.elim)
    rename_i k' m
    split at he
    · rename_i hkk; subst hkk
      have hk := hv.1
      simp only [VR] at hk
      rcases he with ⟨hb, he⟩ | ⟨hb, he⟩
      · have : (n == m) = true := hb
        exact .inr ⟨j, b, x.val, by simp [Instr.findNow, Instr.sameNow, hk.1, this], hv2.1, he⟩
      · have : (n == m) = false := hb
        rcases look_sound (k2 := k2) (j := j + 1) he hv.2 hv2.2 with ⟨h1, h2⟩ | ⟨i, y, c, h1, h2, h3⟩
        · exact .inl ⟨by simp [Instr.findNow, Instr.sameNow, hk.1, this, h1], h2⟩
        · exact .inr ⟨i, y, c, by simp [Instr.findNow, Instr.sameNow, hk.1, this, h1], h2, h3⟩
    · exact he.elim
theorem lookup_sound {t : TypeId} {x i : V} {cx ci : Value} {ok : Bool} (hr : HR Φ w1 π h w) (hx : VR Φ π x cx) (hi : VR Φ π i ci) (he : EffTo P slot h (lookupAct P t x i ok h) v u) :
    u = .no ∧ ∃ cv, (Instr.lookup t cx ci ok).run P w = .ok cv w ∧ VR Φ π v cv := by
  unfold lookupAct at he
  split at he
  · rename_i kt e b k n hu
    simp only [VR] at hx hi
    obtain ⟨A, hA, rfl⟩ := hx
    obtain ⟨rfl, hw⟩ := hi
    split at he
    · rename_i k2 es z hkt hb hz
      split at he
      · exact he.elim
      have hB := hr.get hb (by simp) hA
      simp only [BR] at hB
      obtain ⟨g1, g2, g3, ents, clock, g4, g5, g6⟩ := hB
      obtain ⟨zc, hzr, hzv⟩ := zeroB_run (Φ := Φ) (π := π) hz
      rcases look_sound (k2 := k2) (j := 0) he g5 g6 with ⟨h1, h2⟩ | ⟨j, y, c, h1, h2, h3⟩
      · obtain ⟨rfl, rfl⟩ := h2
        refine ⟨rfl, if ok then .tuple #[zc, .bool false] else zc, ?_, ?_⟩
        · simp only [Instr.lookup, Sem.run_bind, run_underlying hu, Result.andThen_ok, Go.MapKept.run_getObj_map g4, Sem.run_pure, checkKey_int hkt, Go.MapKept.run_findKey hkt h1, hzr]
        · cases ok
          · exact hzv
          · simp only [if_true, VR]; exact ⟨_, rfl, by simp only [VRL, VR, and_true]; exact hzv⟩
      · obtain ⟨rfl, rfl⟩ := h3
        refine ⟨rfl, if ok then .tuple #[c, .bool true] else c, ?_, ?_⟩
        · simp only [Instr.lookup, Sem.run_bind, run_underlying hu, Result.andThen_ok, Go.MapKept.run_getObj_map g4, Sem.run_pure, checkKey_int hkt, Go.MapKept.run_findKey hkt h1]
        · cases ok
          · exact h2
          · simp only [if_true, VR]; exact ⟨_, rfl, by simp only [VRL, VR, and_true]; exact h2⟩
    · exact he.elim
  · exact he.elim

/-! ### values behind interfaces -/
theorem assert_sound {x : V} {c : Value} {xt t : TypeId} {ok : Bool} (hx : VR Φ π x c) (he : EffTo P slot h (assertAct P x t ok) v u) : u = .no ∧ Gives P Φ π (Instr.typeAssert c xt t ok) v := by
  unfold assertAct at he
  have hold : ∀ {y : V} {cy : Value}, VR Φ π y cy → EffTo P slot h (.val (if ok then .tup [y, .bool true] else y)) v u → u = .no ∧ VR Φ π v (if ok then .tuple #[cy, .bool true] else cy) := by
    intro y cy hy he
    obtain ⟨rfl, rfl⟩ := he
    refine ⟨rfl, ?_⟩
    cases ok
    · exact hy
    · simp only [if_true, VR]; exact ⟨_, rfl, by simp only [VRL, VR, and_true]; exact hy⟩
  have fails : EffTo P slot h (if ok then (match zeroB P t with | some z => if z.known then .val (.tup [z, .bool false]) else .fail | none => .fail) else .fail) v u → ok = true ∧ u = .no ∧ ∃ zc, (∀ w, (zeroValue t).run P w = .ok zc w) ∧ VR Φ π v (.tuple #[zc, .bool false]) := by
    intro he
    split at he
    · rename_i hok
      split at he
      · rename_i z hz
        split at he
        · obtain ⟨rfl, rfl⟩ := he
          obtain ⟨zc, hzr, hzv⟩ := zeroB_run (Φ := Φ) (π := π) hz
          exact ⟨hok, rfl, zc, hzr, by simp only [VR]; exact ⟨_, rfl, by simp only [VRL, VR, and_true]; exact hzv⟩⟩
        · exact he.elim
      · exact he.elim
    · exact he.elim
  dsimp only at he
  split at he
  · rename_i want hu
    simp only [VR] at hx; subst hx
    obtain ⟨hok, rfl, zc, h1, h2⟩ := fails he
    exact ⟨rfl, fun w => ⟨_, by simp [Instr.typeAssert, run_underlying hu, hok, h1], h2⟩⟩
  · rename_i want d y hu
    simp only [VR] at hx
    obtain ⟨cy, rfl, hy⟩ := hx
    split at he
    · rename_i i hi
      split at he
      · rename_i hmm0
        have hmm : Instr.missingMethod want i.methods = none := Go.missingMethod_none (by
          unfold Go.lacking; unfold lacksNone at hmm0; rw [List.isEmpty_iff.1 hmm0]; rfl)
        obtain ⟨rfl, h2⟩ := hold (y := .iface d y) (cy := .iface d cy) (by simp only [VR]; exact ⟨cy, rfl, hy⟩) he
        refine ⟨rfl, fun w => ⟨_, ?_, h2⟩⟩
        simp [Instr.typeAssert, run_underlying hu, typeInfo, hi, hmm]
      · rename_i hmm0
        obtain ⟨m, hmm⟩ := Go.missingMethod_some (want := want) (got := i.methods) (by
          unfold Go.lacking; unfold lacksNone at hmm0; intro e; rw [List.map_eq_nil_iff] at e; rw [e] at hmm0; exact hmm0 rfl)
        obtain ⟨hok, rfl, zc, h1, h2⟩ := fails he
        exact ⟨rfl, fun w => ⟨_, by simp [Instr.typeAssert, run_underlying hu, typeInfo, hi, hmm, hok, h1], h2⟩⟩
    · exact he.elim
  · rename_i d hnot hu
    simp only [VR] at hx; subst hx
    obtain ⟨hok, rfl, zc, h1, h2⟩ := fails he
    refine ⟨rfl, fun w => ⟨.tuple #[zc, .bool false], ?_, h2⟩⟩
    simp only [Instr.typeAssert, Sem.run_bind, run_underlying hu, Result.andThen_ok]
    cases d <;> first
      | exact absurd rfl (hnot _)
      | exact absurd hu (hnot _)
      | simp [hok, h1]
  · rename_i d hnot dd y hu
    simp only [VR] at hx
    obtain ⟨cy, rfl, hy⟩ := hx
    split at he
    · rename_i hd
      obtain ⟨rfl, h2⟩ := hold hy he
      refine ⟨rfl, fun w => ⟨_, ?_, h2⟩⟩
      simp only [Instr.typeAssert, Sem.run_bind, run_underlying hu, Result.andThen_ok]
      cases d <;> first
        | exact absurd rfl (hnot _)
        | exact absurd hu (hnot _)
        | (rw [if_pos hd]; rfl)
    · rename_i hd
      obtain ⟨hok, rfl, zc, h1, h2⟩ := fails he
      refine ⟨rfl, fun w => ⟨.tuple #[zc, .bool false], ?_, h2⟩⟩
      simp only [Instr.typeAssert, Sem.run_bind, run_underlying hu, Result.andThen_ok]
      cases d <;> first
        | exact absurd rfl (hnot _)
        | exact absurd hu (hnot _)
        | (rw [if_neg hd]; simp [hok, h1])
  · exact he.elim
end
end Go.Eng
