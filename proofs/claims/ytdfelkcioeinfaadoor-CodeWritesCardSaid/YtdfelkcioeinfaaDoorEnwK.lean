/- The engine, part K: literal slices, append, copy. -/
import Derived.Test.YtdfelkcioeinfaaDoorEnwJ
set_option linter.unusedVariables false
set_option linter.unusedSimpArgs false
namespace Go.Eng
open Go Go.RowKit

section
variable {Φ : Fr} {w w' w1 : World} {π : Pi} {P : Program} {h : List Blk} {slot : Nat} {v : V} {u : Upd}

theorem Seg.setAt {F : Fz} {t : Ty} {xs : List t.D} {cs ds : List Value} {i : Nat} {y : t.D} (hs : Seg F t xs cs) (hi : i < xs.length) (hy : TR F t y ds) : Seg F t (xs.set i y) (List.splice cs (i * t.size) ds) := by
  have hl := TR.length hy
  have hmul : (i + 1) * t.size ≤ xs.length * t.size := Nat.mul_le_mul_right _ hi
  rw [Nat.add_mul] at hmul
  have hfit : i * t.size + ds.length ≤ cs.length := by rw [hs.1]; omega
  refine ⟨by rw [List.splice_length]; simpa using hs.1, fun k hk => ?_⟩
  simp only [List.length_set] at hk
  by_cases hik : i = k
  · subst hik
    refine ⟨ds, by rw [List.getElem_set_self]; exact hy, fun j u hu => ?_⟩
    have hj : j < ds.length := (List.getElem?_eq_some_iff.1 hu).1
    rw [splice_at hfit, if_pos (by omega), Nat.add_sub_cancel_left]
    exact hu
  · obtain ⟨d2, h1, h2⟩ := hs.2 k hk
    refine ⟨d2, by rw [List.getElem_set_ne hik]; exact h1, fun j u hu => ?_⟩
    have hj : j < t.size := by rw [← TR.length h1]; exact (List.getElem?_eq_some_iff.1 hu).1
    rw [splice_at hfit, if_neg]
    · exact h2 j u hu
    · rintro ⟨e1, e2⟩
      rcases Nat.lt_or_gt_of_ne hik with hlt | hgt
      · have : (i + 1) * t.size ≤ k * t.size := Nat.mul_le_mul_right _ hlt
        rw [Nat.add_mul] at this; omega
      · have : (k + 1) * t.size ≤ i * t.size := Nat.mul_le_mul_right _ hgt
        rw [Nat.add_mul] at this; omega
theorem fillT_sound {T : Ty} {n : Nat} (hn : n = T.size) : ∀ {parts : List (Nat × V)} {cparts : List (Nat × Value)} {xs : List T.D} {ccells : Array Value} {out : List T.D}, Seg (Φ false) T xs ccells.toList →
    parts.map (·.1) = cparts.map (·.1) → VRL Φ π (parts.map (·.2)) (cparts.map (·.2)) → (∀ p ∈ parts, p.2 ≠ .any) → fillT T xs parts = some out →
    ∃ cout, Instr.fill (fun i => some (i * n, n)) ccells cparts = some cout ∧ Seg (Φ false) T out cout.toList ∧ out.length = xs.length
  | [], cparts, xs, ccells, out, hc, hi, hp, _, hf => by
    simp only [fillT, Option.some.injEq] at hf; subst hf
    cases cparts with
    | nil => exact ⟨_, rfl, hc, rfl⟩
    | cons => simp at hi
  | (i, v) :: rest, [], _, _, _, _, hi, _, _, _ => by simp at hi
  | (i, v) :: rest, (j, u) :: crest, xs, ccells, out, hc, hi, hp, ha, hf => by
    subst hn
    simp only [List.map_cons, List.cons.injEq] at hi
    simp only [List.map_cons, VRL] at hp
    obtain ⟨rfl, hi⟩ := hi
    simp only [fillT] at hf
    split at hf
    · rename_i y hy
      split at hf
      · rename_i hix
        have hvc := VR.cells hp.1 (ha _ (List.mem_cons_self ..))
        have hTR := decOne_sound (by simp) hy hvc
        have hl := TR.length hTR
        simp only [Array.length_toList] at hl
        have hmul : (i + 1) * T.size ≤ xs.length * T.size := Nat.mul_le_mul_right _ hix
        rw [Nat.add_mul] at hmul
        have hcl := hc.1
        simp only [Array.length_toList] at hcl
        simp only [Instr.fill]
        rw [if_neg (by simp; omega)]
        have e : (u.cells.zipIdx.foldl (fun cs (x : Value × Nat) => cs.setIfInBounds (i * T.size + x.2) x.1) ccells).toList = List.splice ccells.toList (i * T.size) u.cells.toList := by
          have := foldl_splice u.cells.toList 0 (i * T.size) ccells
          rw [← Array.toList_zipIdx] at this
          rw [← Array.foldl_toList]; simpa using this
        obtain ⟨cout, h1, h2, h3⟩ := fillT_sound rfl (ccells := (Array.foldl (fun cs (x : Value × Nat) => cs.setIfInBounds (i * T.size + x.2) x.1) ccells u.cells.zipIdx)) (by rw [e]; exact hc.setAt hix hTR) hi hp.2 (fun p hp => ha p (List.mem_cons_of_mem _ hp)) hf
        exact ⟨cout, h1, h2, by rw [h3]; simp⟩
      · cases hf
    · cases hf
theorem rep_seg {F : Fz} {T : Ty} {x0 : T.D} {z : List Value} {len n : Nat} (hn : n = T.size) (hT : 0 < T.size) (hz : TR F T x0 z) : Seg F T (List.replicate len x0) ((Array.range (len * n)).map (fun j => z.toArray[j % z.length]!)).toList := by
  have hl := TR.length hz
  subst hn
  refine ⟨by simp, fun i hi => ⟨z, by simpa using hz, fun j u hj => ?_⟩⟩
  simp only [List.length_replicate] at hi
  have hjl : j < T.size := by have := (List.getElem?_eq_some_iff.1 hj).1; omega
  have := el_lt hi hjl
  simp only [Array.toList_map, List.getElem?_map, Array.toList_range, List.getElem?_range this, Option.map_some, hl, mod_cell hjl]
  rw [← hj]
  simp [show j < z.length by omega]
theorem build_run {t e : TypeId} {n len : Nat} {z : Value} (hu : P.underlying t = some (.slice e)) (hs : sizeB P e = some n) (hz : ∃ i, P.info? e = some i ∧ i.zero = some z) (hzn : z.cells.size = n) (hl : len * n ≤ 1000000) {parts : Array (Nat × Value)} {cout : Array Value}
    (hf : Instr.fill (fun i => some (i * n, n)) ((Array.range (len * n)).map (fun j => z.cells[j % z.cells.size]!)) parts.toList = some cout) (w : World) :
    (Instr.buildSlice t len parts).run P w = .ok (.slice (some ⟨w.heap.size, 0, none⟩) len len) { w with heap := w.heap.push (.cells cout e) } := by
  obtain ⟨i, hi, hzz⟩ := hz
  have hlim : ¬ len * n > 2 ^ 24 := by omega
  by_cases h0 : len * n = 0
  · have e0 : (Array.range (len * n)).map (fun j => z.cells[j % z.cells.size]!) = (Array.range (len * n)).map (fun j => (#[] : Array Value)[j % (#[] : Array Value).size]!) := by
      rw [h0]; apply Array.ext'; simp
    rw [e0] at hf
    simp only [Instr.buildSlice, Sem.run_bind, run_underlying hu, Result.andThen_ok, sizeB_run hs]
    rw [if_neg hlim, if_pos h0]
    simp only [Sem.run_bind, Sem.run_pure, Result.andThen_ok, hf]
    simp [newRow]
  · simp only [Instr.buildSlice, Sem.run_bind, run_underlying hu, Result.andThen_ok, sizeB_run hs]
    rw [if_neg hlim, if_neg h0]
    simp only [Sem.run_bind, Sem.run_pure, Result.andThen_ok, zeroValue, typeInfo, run_program, hi, hzz, hf]
    simp [newRow]
theorem repV_length {z : List V} : ∀ n, (repV z n).length = n * z.length
  | 0 => by simp [repV]
  | n + 1 => by simp [repV, repV_length n, Nat.add_mul]; omega
theorem repV_get {z : List V} : ∀ (n q : Nat), q < n * z.length → (repV z n)[q]? = z[q % z.length]?
  | 0, q, h => by simp at h
  | n + 1, q, h => by
    simp only [repV]
    rcases Nat.lt_or_ge q z.length with hl | hl
    · rw [List.getElem?_append_left hl, Nat.mod_eq_of_lt hl]
    · rw [List.getElem?_append_right hl, repV_get n _ (by rw [Nat.add_mul] at h; omega)]
      congr 1
      conv => rhs; rw [show q = (q - z.length) + z.length by omega, Nat.add_mod_right]

theorem buildSlice_sound {t : TypeId} {len : Nat} {parts : List (Nat × V)} {cparts : Array (Nat × Value)} (hr : HR Φ w1 π h w) (hi : parts.map (·.1) = cparts.toList.map (·.1)) (hp : VRL Φ π (parts.map (·.2)) (cparts.toList.map (·.2)))
    (he : EffTo P slot h (buildSliceAct P t len parts h) v u) : ∃ cv w', (Instr.buildSlice t len cparts).run P w = .ok cv w' ∧ Post Φ w1 π h v u cv w' := by
  unfold buildSliceAct at he
  split at he
  · rename_i hem
    obtain ⟨rfl, rfl⟩ := he
    unfold emptyB at hem
    split at hem
    · rename_i e hu
      simp only [Bool.and_eq_true, beq_iff_eq, Option.isSome_iff_exists] at hem
      obtain ⟨⟨⟨rfl, hpe⟩, ⟨n, hn⟩⟩, ⟨z, hz⟩⟩ := hem
      have hpe : parts = [] := by simpa using hpe
      subst hpe
      have hcp : cparts.toList = [] := by simpa using hi.symm
      cases hi' : P.info? e with
      | none => simp [hi'] at hz
      | some i =>
        simp only [hi', Option.bind_some] at hz
        have hlim : ¬ 0 * n > 2 ^ 24 := by omega
        have hrun : (Instr.buildSlice t 0 cparts).run P w = .ok (.slice (some ⟨w.heap.size, 0, none⟩) 0 0) { w with heap := w.heap.push (.cells #[] e) } := by
          simp only [Instr.buildSlice, Sem.run_bind, run_underlying hu, Result.andThen_ok, sizeB_run hn]
          rw [if_neg hlim, if_pos (Nat.zero_mul n)]
          simp only [Sem.run_bind, Sem.run_pure, Result.andThen_ok, Instr.fill, hcp, Nat.zero_mul]
          rw [show (Array.range 0) = (#[] : Array Nat) from rfl]
          simp [newRow]
        refine ⟨_, _, hrun, ?_⟩
        have ht := Turn.push w (.cells #[] e) (fun _ _ => False)
        obtain ⟨π', q1, q2, _⟩ := hr.newb (slot := 0) (bs := []) (As := []) (Φ' := Φ) ht (Fr.ext.refl _ _) (hr.fzTurn ht (fun _ _ h => h.elim)) rfl rfl (by simp) (by simp) (by simp)
        exact Post.mk q1 (by simpa [Upd.on, setN] using q2) (by simp [VR])
    · cases hem
  rename_i hem
  clear hem
  split at he
  · exact he.elim
  rename_i hk
  have hk' : ∀ p ∈ parts, p.2 ≠ .any := by
    intro p hp
    simp only [Bool.not_eq_true, Bool.not_eq_false', List.all_eq_true] at hk
    have := hk; simp at this
    exact known_ne (this p.1 p.2 hp)
  split at he
  · rename_i e hu
    split at he
    · rename_i T hT
      split at he
      · rename_i b sz n
        split at he
        · rename_i T' ys hb
          split at he
          · rename_i hTT; subst hTT
            split at he
            · rename_i hs1 hz1
              obtain ⟨h', hh', rfl, rfl⟩ := he
              dsimp only at hh'
              split at hh'
              · rename_i hcond
                simp only [Bool.and_eq_true, bne_iff_ne, ne_eq] at hcond
                have hfree := isFree'_iff.1 hcond.1
                simp only [Option.some.injEq] at hh'
                subst hh'
                unfold zeroB at hz1
                cases hi' : P.info? e with
                | none => simp [hi'] at hz1
                | some i =>
                  cases hzz : i.zero with
                  | none => simp [hi', hzz] at hz1
                  | some z =>
                    simp only [hi', hzz, Option.bind_some, Option.map_some, Option.some.injEq] at hz1
                    have hzv : z = .slice none 0 0 := by
                      have := ofConst_sound (Φ := Φ) (π := π) z
                      rw [hz1] at this
                      simpa [VR] using this
                    subst hzv
                    match hcp : cparts.toList, hi, hp with
                    | [(i0, c0)], hi, hp =>
                      simp only [List.map_cons, List.map_nil, List.cons.injEq, and_true] at hi
                      subst hi
                      simp only [List.map_cons, List.map_nil, VRL, and_true] at hp
                      simp only [VR] at hp
                      obtain ⟨A2, a2, cap2, hA2, f1, f2, f3, f4, f5, f6, f7⟩ := hp
                      have hB2 := hr.get hb (by simp) hA2
                      simp only [BR] at hB2
                      obtain ⟨k1, k2, k3, k4, k5, k6, k7⟩ := hB2
                      have hfill : Instr.fill (fun i => some (i * 1, 1)) ((Array.range (1 * 1)).map (fun j => (Value.slice none 0 0).cells[j % (Value.slice none 0 0).cells.size]!)) cparts.toList = some #[c0] := by
                        rw [hcp, f3]
                        simp [Instr.fill, Value.cells]
                        apply Array.ext'
                        simp [List.range_succ]
                      have hrun := build_run (P := P) (t := t) (len := 1) (n := 1) hu hs1 ⟨i, hi', hzz⟩ rfl (by omega) hfill w
                      refine ⟨_, _, hrun, ?_⟩
                      have hcell : wcell { w with heap := w.heap.push (.cells #[c0] e) } w.heap.size 0 = some c0 := by
                        rw [wcell_some (c := #[c0]) (e := e) (by simp)]; rfl
                      have hT2 := Turn.push w (.cells #[c0] e) (fun _ _ => False)
                      have hown2 := hr.own b _ A2 hb rfl hA2
                      obtain ⟨π', q1, q2, q3⟩ := hr.move (S := fun _ _ => False) hT2 hfree [b] (by intro b' hb'; simp at hb'; subst hb'; exact ⟨_, A2, hb, rfl, hA2⟩) (by simp) ⟨w.heap.size, 0, 1, 1, 1, T'.size, [(some A2.main, ys.length)]⟩ (.rows T' [ys]) rfl
                        (by
                          intro π' _ _
                          simp only [BR, List.length_cons, List.length_nil, true_and]
                          refine ⟨k4, by omega, ⟨fun j r m hj g off hm hrr => ?_, fun j j' r r' m m' hj hj' hne => ?_⟩, fun j hj => ?_, fun j hj => ?_⟩
                          · cases j with
                            | succ j => simp at hj
                            | zero =>
                              simp at hj
                              obtain ⟨rfl, _⟩ := hj
                              have := (hown2 g off (.inl hrr)).2.1
                              have : g = w.heap.size := hm.1
                              omega
                          · cases j <;> cases j' <;> simp at hj hj' hne
                          · have : j = 0 := by omega
                            subst this
                            exact ⟨_, hcell⟩
                          · have : j = 0 := by omega
                            subst this
                            refine ⟨some A2.main, c0, by simp, hcell, a2, cap2, by rw [f3, ← f2, k2]; rfl, ?_, f5, fun h0 => ⟨A2.main, rfl, f7 ?_, k5, ?_⟩⟩
                            · simp only [List.getElem_cons_zero]; omega
                            · simp only [List.getElem_cons_zero] at h0; omega
                            · exact k7.turn (Fr.le_refl _ false) hT2 fun _ _ _ e => e)
                        (by
                          intro g off hh
                          rcases hh with ⟨h3, _⟩ | ⟨j, r, m, hj, hrr⟩
                          · right; rw [h3]; simp [At.main]
                          · cases j with
                            | succ j => simp at hj
                            | zero =>
                              simp at hj
                              obtain ⟨rfl, _⟩ := hj
                              exact .inl ⟨b, by simp, A2, hA2, .inl hrr⟩)
                      refine Post.mk q1 (by simpa [Upd.on, killB] using q2) ?_
                      simp only [VR]
                      exact ⟨_, _, _, q3, rfl, rfl, rfl, Nat.le_refl _, by simp [maxLen], by simp, fun _ => rfl⟩
              · cases hh'
            · exact he.elim
          · exact he.elim
        · exact he.elim
      · exact he.elim
    · split at he
      · rename_i T n z hT hsz hz
        split at he
        · exact he.elim
        rename_i hc
        simp only [Bool.not_eq_true, Bool.not_eq_false', Bool.and_eq_true, decide_eq_true_eq, beq_iff_eq] at hc
        obtain ⟨⟨hc1, hc2⟩, hc3⟩ := hc
        split at he
        · rename_i x0 hx0
          split at he
          · rename_i xs hxs
            obtain ⟨hf, rfl, rfl⟩ := he
            have hTs := (elemT_sound hT).1
            unfold zeroB at hz
            cases hi' : P.info? e with
            | none => simp [hi'] at hz
            | some i =>
              cases hzz : i.zero with
              | none => simp [hi', hzz] at hz
              | some zv =>
                simp only [hi', hzz, Option.bind_some, Option.map_some, Option.some.injEq] at hz
                subst hz
                have hTR := decOne_sound (Φ := Φ) (π := π) (by simp) hx0 (VR.cells (ofConst_sound zv) (known_ne hc3))
                have hzl := TR.length hTR
                simp only [Array.length_toList] at hzl
                have hseg := rep_seg (len := len) (n := n) hc2.symm hTs hTR
                obtain ⟨cout, g1, g2, g3⟩ := fillT_sound (Φ := Φ) (π := π) (n := n) hc2.symm (ccells := (Array.range (len * n)).map (fun j => zv.cells[j % zv.cells.size]!)) (by simpa using hseg) hi hp hk' hxs
                have hrun := build_run (P := P) (t := t) (len := len) (n := n) hu hsz ⟨i, hi', hzz⟩ (by omega) hc1 g1 w
                refine ⟨_, _, hrun, ?_⟩
                have hfree := isFree_all hf
                have hcl := g2.1
                simp only [Array.length_toList, List.length_replicate] at hcl g3
                rw [g3] at hcl
                obtain ⟨π', q1, q2, q3⟩ := hr.move (S := fun _ _ => False) (Turn.push w (.cells cout e) _) hfree [] (by simp) (by simp) ⟨w.heap.size, 0, len * n, len, n, 0, []⟩ (.row T xs) rfl
                  (by
                    intro π' _ _
                    simp only [BR, true_and]
                    refine ⟨g3.symm, hc2.symm, hTs, by rw [g3, hc2]; exact Nat.le_refl _, fun j hj => ?_, g2.els fun j u hu => ?_⟩
                    · rw [wcell_some (c := cout) (e := e) (by simp)]
                      exact ⟨_, Array.getElem?_eq_getElem (by rw [hcl]; rw [hc2]; omega)⟩
                    · rw [wcell_some (c := cout) (e := e) (by simp), Nat.zero_add]; simpa using hu)
                  (by
                    intro g off hh
                    rcases hh with ⟨h3, _⟩ | ⟨i, r, m, hi, _⟩
                    · right; rw [h3]; simp [At.main]
                    · simp at hi)
                refine Post.mk q1 (by simpa [Upd.on, setN_one, killB] using q2) ?_
                simp only [VR]
                have hlm : len ≤ len * n := by rw [← hc2]; exact Nat.le_mul_of_pos_right _ hTs
                exact ⟨_, _, _, q3, rfl, rfl, rfl, Nat.le_refl _, by simp only [maxLen]; omega, Nat.le_refl _, fun _ => rfl⟩
          · exact he.elim
        · exact he.elim
      · rename_i n z hT hsz hz
        split at he
        · exact he.elim
        rename_i hc
        simp only [Bool.not_eq_true, Bool.not_eq_false', Bool.and_eq_true, decide_eq_true_eq, beq_iff_eq] at hc
        obtain ⟨⟨⟨hc1, hc2⟩, hc3⟩, hc4⟩ := hc
        split at he
        · rename_i c hfv
          obtain ⟨hf, rfl, rfl⟩ := he
          unfold zeroB at hz
          cases hi' : P.info? e with
          | none => simp [hi'] at hz
          | some i =>
            cases hzz : i.zero with
            | none => simp [hi', hzz] at hz
            | some zv =>
              simp only [hi', hzz, Option.bind_some, Option.map_some, Option.some.injEq] at hz
              subst hz
              have hzc := VR.cells (Φ := Φ) (π := π) (ofConst_sound zv) (known_ne hc3)
              have hzl := VRL.length hzc
              simp only [Array.length_toList] at hzl
              have hrep : VRL Φ π (repV (ofConst zv).cells len) ((Array.range (len * n)).map (fun j => zv.cells[j % zv.cells.size]!)).toList := by
                refine VRL.of_get (by rw [repV_length, hc2]; simp) (fun q x y hx hy => ?_)
                have hq := (List.getElem?_eq_some_iff.1 hx).1
                rw [repV_length] at hq
                rw [repV_get _ _ hq] at hx
                obtain ⟨y', hy', hv⟩ := VRL.get hzc hx
                have : y = y' := by
                  rw [hc2] at hq
                  simp only [Array.toList_map, List.getElem?_map, Array.toList_range, List.getElem?_range hq, Option.map_some, Option.some.injEq] at hy
                  rw [← hy, ← hzl]
                  have : zv.cells[q % (ofConst zv).cells.length]? = some y' := by simpa using hy'
                  obtain ⟨h1, h2⟩ := Array.getElem?_eq_some_iff.1 this
                  rw [getElem!_pos zv.cells _ h1]; exact h2
                subst this
                exact hv
              obtain ⟨cout, g1, g2⟩ := fill_sound (Φ := Φ) (π := π) hrep hi hp hk' hfv
              have hrun := build_run (P := P) (t := t) (len := len) (n := n) hu hsz ⟨i, hi', hzz⟩ (by omega) hc1 g1 w
              refine ⟨_, _, hrun, ?_⟩
              have hfree := isFree_all hf
              have hgl := VRL.length g2
              obtain ⟨π', q1, q2, q3⟩ := hr.move (S := fun _ _ => False) (Turn.push w (.cells cout e) _) hfree [] (by simp) (by simp) ⟨w.heap.size, 0, c.length, 0, 0, 0, []⟩ (.cells c) rfl
                (by
                  intro π' hle _
                  simp only [BR, true_and]
                  refine ⟨cout.toList, VRL.mono (Fr.le_refl _) hle g2, fun j u hu => ?_⟩
                  rw [wcell_some (c := cout) (e := e) (by simp), Nat.zero_add]; simpa using hu)
                (by
                  intro g off hh
                  rcases hh with ⟨h3, _⟩ | ⟨i, r, m, hi, _⟩
                  · right; rw [h3]; simp [At.main]
                  · simp at hi)
              refine Post.mk q1 (by simpa [Upd.on, setN_one, killB] using q2) ?_
              simp only [VR]
              have hlm : len ≤ len * n := Nat.le_mul_of_pos_right _ hc4
              exact ⟨_, _, q3, rfl, Nat.le_refl _, by simp only [maxLen]; omega⟩
        · exact he.elim
      · exact he.elim
  · exact he.elim
end
end Go.Eng
