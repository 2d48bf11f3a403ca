/- Contracts of the program, and of the laws. -/
import Derived.Test.YtbaekjnfijmakaaGreatDoorKg
import Derived.Test.YtbaekjnfijmakaaGreatDoorKc
import Derived.Test.YtbaekjnfijmakaaGreatDoorKf
import Derived.Test.YtbaekjnfijmakaaGreatDoorKd
set_option linter.unnecessarySimpa false
set_option linter.unusedSimpArgs false
set_option linter.unusedVariables false
set_option maxRecDepth 20000
/- The contract of the program's bind. -/
namespace Go.Proofs.K
open Go Go.Proofs Go.IntWalk

theorem c_Clip_Problem (rows : List (List C)) : Con Tryz.prog 138 [vl rows] (fun r ms => r = vl rows ∧ ms = []) := by
  refine con_intro fi138 (by simp) ?_
  dsimp only [bodyOf, Tryz.f138, Option.getD]; simp

set_option maxHeartbeats 4000000 in
theorem c_impl_bind (ps : List Param) (f : Flat) (hok : sigOk ps = true) (hp : SFit ps) (hf : FFit f) :
    Con Tryz.prog 96 [vsig ps, vflat f] (fun r ms => r = .tup [.agg [.ms 0], .one (.c (.lst ((problemsS ps f).map Problem.c)))] ∧ ms = [(3, (boundSlots ps f).map Slot.c)]) := by
  have hpl := hp.len
  have hfp := hf.places
  have hfn := hf.names
  refine con_intro fi96 (by simp) ?_
  dsimp only [bodyOf, Tryz.f96, Option.getD]; simp
  refine ⟨⟨by omega, by omega⟩, ?_⟩
  have hpc : cnt Param.placed ps ≤ ps.length := cnt_le
  generalize hm : idxOf (fun p => p.kind == 4) ps = m
  have hov : ∀ i j p, ovG [((natOr m ps.length, 2), P1.nil)] i j = some p → p = .nil ∧ [P1.c (C.bool false), P1.nil, P1.nil][j]? = some .nil := fun i j p h => by
    simp only [ovG] at h
    split at h
    · rename_i e; cases h; rw [e.2]; exact ⟨rfl, rfl⟩
    · cases h
  refine ((goS 3 [((natOr m ps.length, 2), P1.nil)] rfl rfl hov).trans ((gnS 3 (natOr m ps.length) 2 2 rfl (by simp)).trans (gvS 7 2 (by simp)))).aw ?_
  simp
  have hne4 : ∀ (k : Nat) (hk : k < ps.length), ps[k].kind ≠ 4 → ¬ k = natOr m ps.length := fun k hk h4 e => by
    unfold natOr at e
    split at e
    · rename_i h0
      rw [← hm] at h0
      obtain ⟨n, hn, hnl, hq, _⟩ := idxOf_nat h0
      have : k = n := by rw [← hm, hn] at e; simpa using e
      subst this
      exact h4 (by simpa using hq)
    · omega
  refine lp [2, 3, 4, 6, 7, 8, 24, 25, 26] (fun q : Nat × PV => ⟨[(2, .one (.ptr 0 0)), (3, .one (.ptr 1 0)), (4, .one (.ptr 2 0)), (6, .one (.ptr 3 0)), (7, .one (.ms 4)), (8, q.2), (24, vps ps), (25, vi ps.length), (26, vi q.1)],
    [(0, .box [.c (.lst (ps.map Param.c))]), (1, .box [.c (.lst (f.places.map ix)), .c (.lst (f.names.map Pair.c))]), (2, .box [.nil]), (3, .box [.ms 5]), (4, .arr 2 []), (5, .arx 3 ((slots1 ps f.places q.1).map Slot.c) [((natOr m ps.length, 2), .ms 6)]), (6, .arr 2 [])], 7⟩)
    (fun q => q.1 ≤ ps.length ∧ (q.2 = vix (left1 ps f.places q.1) ∨ q.2 = .one .nil ∧ left1 ps f.places q.1 = [])) (fun q => ps.length - q.1) (0, vix f.places) (by simp [slots1_zero]) ⟨by simp, .inl (by simp [left1])⟩ ?_
  rintro ⟨k, lv⟩ ⟨hk, hlv⟩
  simp only at hk hlv
  by_cases h : k < ps.length
  · have hsl : k < (slots1 ps f.places k).length := by rw [slots1_len]; exact h
    have hleft : (left1 ps f.places k).length ≤ f.places.length := by unfold left1; split <;> simp
    rcases hlv with rfl | ⟨rfl, hlz⟩
    · simp [h]
      refine call_d (c_impl_placed ps[k]) rfl (by simp) ?_
      cases h5 : ps[k].placed
      · simp
        have e1 : (ps[k].kind == 2) = true → ¬ k = natOr m ps.length := fun h6 => hne4 k h (by simp at h6; omega)
        cases h6 : ps[k].kind == 2
        · have hs := slots1_same (pl := f.places) h (slot1_none h h5 h6)
          simp [h6]
          exact ⟨k + 1, _, ⟨⟨rfl, wrapN k (by omega)⟩, by rw [hs]⟩, ⟨by omega, .inl (by rw [left_other hok h h5 h6])⟩, by omega⟩
        · obtain ⟨hr0, hr1⟩ := left_rest (pl := f.places) hok h h6
          have e1 := e1 h6
          have hs := slots1_next (pl := f.places) h
          rw [slot1_rest h h6, ← hr0] at hs
          simp [h6]
          refine dr mixed ?_
          simp [h, e1, hsl]
          refine DC.of (c_clone_int ((left1 ps f.places k).map ix) ix_len (by first | (simp; done) | (simp; omega))) (by simp) (by simp) ?_
          simp [h, e1, hsl]
          refine ⟨by kernel_rfl, ?_⟩
          refine ⟨k + 1, _, ⟨⟨rfl, wrapN k (by omega)⟩, ?_⟩, ⟨by omega, .inr ⟨rfl, hr1⟩⟩, by omega⟩
          rw [hs, List.map_set, slots1_at h]
          try rfl
      · obtain ⟨hl0, hl1⟩ := left_placed (pl := f.places) hok h h5
        have hk2 : (ps[k].kind == 2) = false := by simp only [Param.placed, Bool.or_eq_true, beq_iff_eq] at h5; simp; omega
        have e1 : ¬ k = natOr m ps.length := hne4 k h (by simp only [Param.placed, Bool.or_eq_true, beq_iff_eq] at h5; omega)
        by_cases hlt : k < f.places.length
        · have hd := List.drop_eq_getElem_cons hlt
          have hs := slots1_next (pl := f.places) h
          rw [slot1_placed h h5 hlt] at hs
          generalize f.places[k] = x at hd hs
          generalize f.places.drop (k + 1) = rest at hd hl1
          rw [hl0, hd]
          have hsub : subRows (ix x :: rest.map ix) 1 ((rest.length : Int) + 1) = rest.map ix := by
            unfold subRows
            rw [show ((rest.length : Int) + 1).toNat = rest.length + 1 by omega, show (1 : Int).toNat = 1 from rfl]
            simp
          simp [h5]
          refine dr mixed ?_
          simp [h, e1, hsl]
          refine ⟨by kernel_rfl, ?_⟩
          simp [hk2, hsub]
          exact ⟨by omega, k + 1, _, ⟨⟨rfl, wrapN k (by omega)⟩, by rw [hs, List.map_set]; rfl⟩, ⟨by omega, .inl (by rw [hl1])⟩, by omega⟩
        · have hd0 : f.places.drop k = [] := List.drop_of_length_le (by omega)
          have hd1 : f.places.drop (k + 1) = [] := List.drop_of_length_le (by omega)
          have hs := slots1_same (pl := f.places) h (slot1_short h h5 hlt)
          rw [hl0, hd0]
          simp [hk2]
          exact ⟨k + 1, _, ⟨⟨rfl, wrapN k (by omega)⟩, by rw [hs]⟩, ⟨by omega, .inl (by rw [hl1, hd1]; rfl)⟩, by omega⟩
    · simp [h]
      refine call_d (c_impl_placed ps[k]) rfl (by simp) ?_
      cases h5 : ps[k].placed
      · simp
        cases h6 : ps[k].kind == 2
        · have hs := slots1_same (pl := f.places) h (slot1_none h h5 h6)
          simp [h6]
          exact ⟨k + 1, _, ⟨⟨rfl, wrapN k (by omega)⟩, by rw [hs]⟩, ⟨by omega, .inr ⟨rfl, by rw [left_other hok h h5 h6]; exact hlz⟩⟩, by omega⟩
        · obtain ⟨hr0, hr1⟩ := left_rest (pl := f.places) hok h h6
          have e1 := hne4 k h (by simp at h6; omega)
          have hs := slots1_next (pl := f.places) h
          rw [slot1_rest h h6, ← hr0] at hs
          simp [h6]
          refine dr mixed ?_
          simp [h, e1, hsl]
          refine DC.of (c_clone_int (([] : List Int).map ix) ix_len (by first | (simp; done) | (simp; omega))) (by simp) (by simp) ?_
          simp [h, e1, hsl]
          refine ⟨by kernel_rfl, ?_⟩
          refine ⟨k + 1, _, ⟨⟨rfl, wrapN k (by omega)⟩, ?_⟩, ⟨by omega, .inr ⟨rfl, hr1⟩⟩, by omega⟩
          rw [hlz] at hs
          rw [hs, List.map_set, slots1_at h]
          try rfl
      · obtain ⟨hl0, hl1⟩ := left_placed (pl := f.places) hok h h5
        have hk2 : (ps[k].kind == 2) = false := by simp only [Param.placed, Bool.or_eq_true, beq_iff_eq] at h5; simp; omega
        have hs := slots1_same (pl := f.places) h (slot1_short h h5 (by rw [hl0] at hlz; simp at hlz; omega))
        simp [hk2]
        exact ⟨k + 1, _, ⟨⟨rfl, wrapN k (by omega)⟩, by rw [hs]⟩, ⟨by omega, .inr ⟨rfl, by rw [hl1]; rw [hl0] at hlz; simp at hlz ⊢; omega⟩⟩, by omega⟩
  · have hke : k = ps.length := by omega
    subst hke
    have hle := left_end (ps := ps) (pl := f.places)
    have hbad0 : (decide (cnt Param.placed ps < f.places.length) && decide (idxOf (fun p => p.kind == 2) ps < 0)) = false → bad0 ps f = [] := fun hb => by unfold bad0; rw [hb]; rfl
    have hbad1 : (decide (cnt Param.placed ps < f.places.length) && decide (idxOf (fun p => p.kind == 2) ps < 0)) = true → bad0 ps f = [⟨0, ⟨#[]⟩⟩] := fun hb => by unfold bad0; rw [hb]; rfl
    rcases hlv with rfl | ⟨rfl, hlz⟩
    · cases hb : decide (0 < (left1 ps f.places ps.length).length)
      · have hb0 := hbad0 (hle ▸ hb)
        simp [hb]
        have hsl0n : (slots1 ps f.places ps.length).length = ps.length := slots1_len _ _ _
        have hfin := bindS_slots hok f
        have hfinb := bindS_bad hok f
        unfold bindS at hfin hfinb
        rw [hm] at hfin
        generalize slots1 ps f.places ps.length = sl0 at *
        refine meet_g 2 [2, 3, 4, 6, 7] (fun i : Nat => ⟨[(2, .one (.ptr 0 0)), (3, .one (.ptr 1 0)), (4, .one (.ptr 2 0)), (6, .one (.ptr 3 0)), (7, .one (.ms 4))],
          [(0, .box [.c (.lst (ps.map Param.c))]), (1, .box [.c (.lst (f.places.map ix)), .c (.lst (f.names.map Pair.c))]), (2, .box [.nil]), (3, .box [.ms 5]), (4, .arr 2 ((nameS ps sl0 (bad0 ps f) (f.names.take i)).bad.map Problem.c)),
           (5, .arx 3 ((nameS ps sl0 (bad0 ps f) (f.names.take i)).slots.map Slot.c) [((natOr m ps.length, 2), .ms 6)]), (6, .arr 2 ((nameS ps sl0 (bad0 ps f) (f.names.take i)).pairs.map Pair.c))], 7⟩)
          (fun i => i = f.names.length) ?_ ?_
        · refine lp [2, 3, 4, 6, 7, 68, 69, 70] (fun i : Nat => ⟨[(2, .one (.ptr 0 0)), (3, .one (.ptr 1 0)), (4, .one (.ptr 2 0)), (6, .one (.ptr 3 0)), (7, .one (.ms 4)), (68, vprs f.names), (69, vi f.names.length), (70, vi i)],
            [(0, .box [.c (.lst (ps.map Param.c))]), (1, .box [.c (.lst (f.places.map ix)), .c (.lst (f.names.map Pair.c))]), (2, .box [.nil]), (3, .box [.ms 5]), (4, .arr 2 ((nameS ps sl0 (bad0 ps f) (f.names.take i)).bad.map Problem.c)),
           (5, .arx 3 ((nameS ps sl0 (bad0 ps f) (f.names.take i)).slots.map Slot.c) [((natOr m ps.length, 2), .ms 6)]), (6, .arr 2 ((nameS ps sl0 (bad0 ps f) (f.names.take i)).pairs.map Pair.c))], 7⟩)
            (fun i => i ≤ f.names.length) (fun i => f.names.length - i) 0 (by simp [nameS, hb0]) (by simp) ?_
          intro i hi
          by_cases h : i < f.names.length
          · simp [h]
            refine call_d (c_impl_takes ps f.names[i].name hp) rfl (by simp) ?_
            have hst := nameS_step (ps := ps) (sl := sl0) (b := bad0 ps f) h
            obtain ⟨l1, l2, l3⟩ := nameS_len ps sl0 (bad0 ps f) (f.names.take i)
            have hbl : (bad0 ps f).length ≤ 1 := by rw [hb0]; simp
            simp only [List.length_take] at l2 l3
            generalize nameS ps sl0 (bad0 ps f) (f.names.take i) = S at *
            unfold nameStep at hst
            cases h1 : decide (takesBy ps f.names[i].name < 0)
            · obtain ⟨k, hk, hkl, hkk⟩ := takesBy_nat (ps := ps) (s := f.names[i].name) (by simpa using h1)
              rw [hk] at hst ⊢
              have hs0 : k < S.slots.length := by omega
              have hk0 : ¬ ((k : Int) < 0) := by omega
              simp only [hk0, if_false, Int.toNat_natCast, List.getD_eq_getElem?_getD, List.getElem?_eq_getElem hkl, List.getElem?_eq_getElem hs0, Option.getD_some] at hst
              have hkn : decide ((k : Int) < 0) = false := by simpa using hk0
              simp [hkl, hkn]
              cases h2 : ps[k].kind == 4
              · rw [h2] at hst
                simp only [Bool.false_eq_true, if_false] at hst
                have e2 := hne4 k hkl (by simpa using h2)
                simp [hs0]
                cases h5 : S.slots[k].given
                · rw [h5] at hst
                  simp only [Bool.false_eq_true, if_false] at hst
                  simp [h, hs0, e2]
                  exact ⟨i + 1, ⟨wrapN i (by omega), by rw [hst], by rw [hst]; simp only [List.map_set]; rfl, by rw [hst]⟩, by omega, by omega⟩
                · rw [h5] at hst
                  simp only [if_true] at hst
                  simp
                  exact ⟨⟨by omega, by omega⟩, i + 1, ⟨wrapN i (by omega), by rw [hst]; simp⟩, by omega, by omega⟩
              · rw [h2] at hst
                simp only [if_true] at hst
                have hkm : m = k := by
                  rcases hkk with h3 | ⟨h3, _⟩
                  · simp [Param.named, show ps[k].kind = 4 by simpa using h2] at h3
                  · rw [← hm, h3]
                subst hkm
                simp
                refine dr mixed ?_
                simp [h, hkl, hs0]
                exact ⟨⟨by omega, by omega⟩, by kernel_rfl, i + 1, ⟨wrapN i (by omega), by rw [hst], by rw [hst], by rw [hst]; simp⟩, by omega, by omega⟩
            · have hk0 : takesBy ps f.names[i].name < 0 := by simpa using h1
              rw [if_pos hk0] at hst
              simp [h1]
              exact ⟨⟨by omega, by omega⟩, i + 1, ⟨wrapN i (by omega), by rw [hst]; simp⟩, by omega, by omega⟩
          · have : i = f.names.length := by omega
            subst this
            simp
        · rintro i rfl
          refine ⟨_, (fzS 6 rfl).trans ((gcS 5 rfl rfl rfl (fun k s' r' e h => by cases e; change Blk.frz _ = _ at h; cases h)).trans (gaS 5 rfl)), ?_⟩
          simp
          have hF : setC ((nameS ps sl0 (bad0 ps f) f.names).slots.map Slot.c) (natOr m ps.length) 2 (.lst ((nameS ps sl0 (bad0 ps f) f.names).pairs.map Pair.c)) = (boundSlots ps f).map Slot.c := by rw [setC_pairs, hfin]
          have hFl := boundSlots_len ps f
          have hbl := boundS_bad ps f
          have hps : problemsS ps f = (boundS ps f).bad ++ missL (boundSlots ps f) 0 (ps.drop 0) := rfl
          rw [← hfinb] at hbl hps
          generalize hB : (nameS ps sl0 (bad0 ps f) f.names).bad = B at *
          generalize hFS : boundSlots ps f = FS at *
          refine lp [2, 3, 4, 6, 7, 132, 133, 134] (fun q : Nat × List Problem => ⟨[(2, .one (.ptr 0 0)), (3, .one (.ptr 1 0)), (4, .one (.ptr 2 0)), (6, .one (.ptr 3 0)), (7, .one (.ms 4)), (132, vps ps), (133, vi ps.length), (134, vi q.1)],
            [(0, .box [.c (.lst (ps.map Param.c))]), (1, .box [.c (.lst (f.places.map ix)), .c (.lst (f.names.map Pair.c))]), (2, .box [.nil]), (3, .box [.ms 5]), (4, .arr 2 (q.2.map Problem.c)), (5, .arr 3 (FS.map Slot.c))], 6⟩)
            (fun q => q.1 ≤ ps.length ∧ q.2.length ≤ B.length + q.1 ∧ problemsS ps f = q.2 ++ missL FS q.1 (ps.drop q.1)) (fun q => ps.length - q.1) (0, B) (by simp [hF, hB]) ⟨by simp, by simp, hps⟩ ?_
          rintro ⟨k, out⟩ ⟨hk, hol, he⟩
          simp only at hk hol he
          by_cases h : k < ps.length
          · have hks : k < FS.length := by omega
            have hset : (FS.map Slot.c).set k [C.bool FS[k].given, C.lst (FS[k].list.map ix), C.lst (FS[k].pairs.map Pair.c)] = FS.map Slot.c := by
              have e : [C.bool FS[k].given, C.lst (FS[k].list.map ix), C.lst (FS[k].pairs.map Pair.c)] = (FS.map Slot.c)[k]'(by simpa using hks) := by simp
              rw [e, List.set_getElem_self]
            rw [missL_step FS ps k h, missStep] at he
            simp only [List.getD_eq_getElem?_getD, List.getElem?_eq_getElem hks, Option.getD_some] at he
            simp [h]
            refine dr mixed ?_
            simp [h, hks]
            refine DC.ofD (c_Clip_Pair (FS[k].pairs.map Pair.c)) rfl (by simp) ?_
            simp [h, hks, hset]
            refine ⟨by kernel_rfl, ?_⟩
            refine call_d (c_impl_single ps[k]) rfl (by simp) ?_
            cases h1 : ps[k].single
            · rw [h1] at he
              simp
              exact ⟨k + 1, out, ⟨wrapN k (by omega), rfl⟩, ⟨by omega, by omega, by simpa using he⟩, by omega⟩
            · rw [h1] at he
              cases h2 : ps[k].hasDefault
              · rw [h2] at he
                simp [h2, hks]
                cases h3 : FS[k].given
                · rw [h3] at he
                  simp [h3]
                  exact ⟨⟨by omega, by omega⟩, k + 1, out ++ [⟨3, ps[k].name⟩], ⟨wrapN k (by omega), by simp⟩, ⟨by omega, by simp; omega, by simpa using he⟩, by omega⟩
                · rw [h3] at he
                  simp [h3]
                  exact ⟨k + 1, out, ⟨wrapN k (by omega), rfl⟩, ⟨by omega, by omega, by simpa using he⟩, by omega⟩
              · rw [h2] at he
                simp [h2]
                exact ⟨k + 1, out, ⟨wrapN k (by omega), rfl⟩, ⟨by omega, by omega, by simpa using he⟩, by omega⟩
          · simp [h]
            have hend : problemsS ps f = out := by rw [he, List.drop_of_length_le (by omega)]; simp [missL]
            refine fz 4 rfl ?_
            refine dr mixed ?_
            simp
            refine DC.ofD (c_Clip_Problem (out.map Problem.c)) rfl (by simp) ?_
            simp
            refine ⟨by kernel_rfl, ?_⟩
            simp [hend]
      · have hb0 := hbad1 (hle ▸ hb)
        simp [hb]
        have hsl0n : (slots1 ps f.places ps.length).length = ps.length := slots1_len _ _ _
        have hfin := bindS_slots hok f
        have hfinb := bindS_bad hok f
        unfold bindS at hfin hfinb
        rw [hm] at hfin
        generalize slots1 ps f.places ps.length = sl0 at *
        refine meet_g 2 [2, 3, 4, 6, 7] (fun i : Nat => ⟨[(2, .one (.ptr 0 0)), (3, .one (.ptr 1 0)), (4, .one (.ptr 2 0)), (6, .one (.ptr 3 0)), (7, .one (.ms 4))],
          [(0, .box [.c (.lst (ps.map Param.c))]), (1, .box [.c (.lst (f.places.map ix)), .c (.lst (f.names.map Pair.c))]), (2, .box [.nil]), (3, .box [.ms 5]), (4, .arr 2 ((nameS ps sl0 (bad0 ps f) (f.names.take i)).bad.map Problem.c)),
           (5, .arx 3 ((nameS ps sl0 (bad0 ps f) (f.names.take i)).slots.map Slot.c) [((natOr m ps.length, 2), .ms 6)]), (6, .arr 2 ((nameS ps sl0 (bad0 ps f) (f.names.take i)).pairs.map Pair.c))], 7⟩)
          (fun i => i = f.names.length) ?_ ?_
        · refine lp [2, 3, 4, 6, 7, 68, 69, 70] (fun i : Nat => ⟨[(2, .one (.ptr 0 0)), (3, .one (.ptr 1 0)), (4, .one (.ptr 2 0)), (6, .one (.ptr 3 0)), (7, .one (.ms 4)), (68, vprs f.names), (69, vi f.names.length), (70, vi i)],
            [(0, .box [.c (.lst (ps.map Param.c))]), (1, .box [.c (.lst (f.places.map ix)), .c (.lst (f.names.map Pair.c))]), (2, .box [.nil]), (3, .box [.ms 5]), (4, .arr 2 ((nameS ps sl0 (bad0 ps f) (f.names.take i)).bad.map Problem.c)),
           (5, .arx 3 ((nameS ps sl0 (bad0 ps f) (f.names.take i)).slots.map Slot.c) [((natOr m ps.length, 2), .ms 6)]), (6, .arr 2 ((nameS ps sl0 (bad0 ps f) (f.names.take i)).pairs.map Pair.c))], 7⟩)
            (fun i => i ≤ f.names.length) (fun i => f.names.length - i) 0 (by simp [nameS, hb0]) (by simp) ?_
          intro i hi
          by_cases h : i < f.names.length
          · simp [h]
            refine call_d (c_impl_takes ps f.names[i].name hp) rfl (by simp) ?_
            have hst := nameS_step (ps := ps) (sl := sl0) (b := bad0 ps f) h
            obtain ⟨l1, l2, l3⟩ := nameS_len ps sl0 (bad0 ps f) (f.names.take i)
            have hbl : (bad0 ps f).length ≤ 1 := by rw [hb0]; simp
            simp only [List.length_take] at l2 l3
            generalize nameS ps sl0 (bad0 ps f) (f.names.take i) = S at *
            unfold nameStep at hst
            cases h1 : decide (takesBy ps f.names[i].name < 0)
            · obtain ⟨k, hk, hkl, hkk⟩ := takesBy_nat (ps := ps) (s := f.names[i].name) (by simpa using h1)
              rw [hk] at hst ⊢
              have hs0 : k < S.slots.length := by omega
              have hk0 : ¬ ((k : Int) < 0) := by omega
              simp only [hk0, if_false, Int.toNat_natCast, List.getD_eq_getElem?_getD, List.getElem?_eq_getElem hkl, List.getElem?_eq_getElem hs0, Option.getD_some] at hst
              have hkn : decide ((k : Int) < 0) = false := by simpa using hk0
              simp [hkl, hkn]
              cases h2 : ps[k].kind == 4
              · rw [h2] at hst
                simp only [Bool.false_eq_true, if_false] at hst
                have e2 := hne4 k hkl (by simpa using h2)
                simp [hs0]
                cases h5 : S.slots[k].given
                · rw [h5] at hst
                  simp only [Bool.false_eq_true, if_false] at hst
                  simp [h, hs0, e2]
                  exact ⟨i + 1, ⟨wrapN i (by omega), by rw [hst], by rw [hst]; simp only [List.map_set]; rfl, by rw [hst]⟩, by omega, by omega⟩
                · rw [h5] at hst
                  simp only [if_true] at hst
                  simp
                  exact ⟨⟨by omega, by omega⟩, i + 1, ⟨wrapN i (by omega), by rw [hst]; simp⟩, by omega, by omega⟩
              · rw [h2] at hst
                simp only [if_true] at hst
                have hkm : m = k := by
                  rcases hkk with h3 | ⟨h3, _⟩
                  · simp [Param.named, show ps[k].kind = 4 by simpa using h2] at h3
                  · rw [← hm, h3]
                subst hkm
                simp
                refine dr mixed ?_
                simp [h, hkl, hs0]
                exact ⟨⟨by omega, by omega⟩, by kernel_rfl, i + 1, ⟨wrapN i (by omega), by rw [hst], by rw [hst], by rw [hst]; simp⟩, by omega, by omega⟩
            · have hk0 : takesBy ps f.names[i].name < 0 := by simpa using h1
              rw [if_pos hk0] at hst
              simp [h1]
              exact ⟨⟨by omega, by omega⟩, i + 1, ⟨wrapN i (by omega), by rw [hst]; simp⟩, by omega, by omega⟩
          · have : i = f.names.length := by omega
            subst this
            simp
        · rintro i rfl
          refine ⟨_, (fzS 6 rfl).trans ((gcS 5 rfl rfl rfl (fun k s' r' e h => by cases e; change Blk.frz _ = _ at h; cases h)).trans (gaS 5 rfl)), ?_⟩
          simp
          have hF : setC ((nameS ps sl0 (bad0 ps f) f.names).slots.map Slot.c) (natOr m ps.length) 2 (.lst ((nameS ps sl0 (bad0 ps f) f.names).pairs.map Pair.c)) = (boundSlots ps f).map Slot.c := by rw [setC_pairs, hfin]
          have hFl := boundSlots_len ps f
          have hbl := boundS_bad ps f
          have hps : problemsS ps f = (boundS ps f).bad ++ missL (boundSlots ps f) 0 (ps.drop 0) := rfl
          rw [← hfinb] at hbl hps
          generalize hB : (nameS ps sl0 (bad0 ps f) f.names).bad = B at *
          generalize hFS : boundSlots ps f = FS at *
          refine lp [2, 3, 4, 6, 7, 132, 133, 134] (fun q : Nat × List Problem => ⟨[(2, .one (.ptr 0 0)), (3, .one (.ptr 1 0)), (4, .one (.ptr 2 0)), (6, .one (.ptr 3 0)), (7, .one (.ms 4)), (132, vps ps), (133, vi ps.length), (134, vi q.1)],
            [(0, .box [.c (.lst (ps.map Param.c))]), (1, .box [.c (.lst (f.places.map ix)), .c (.lst (f.names.map Pair.c))]), (2, .box [.nil]), (3, .box [.ms 5]), (4, .arr 2 (q.2.map Problem.c)), (5, .arr 3 (FS.map Slot.c))], 6⟩)
            (fun q => q.1 ≤ ps.length ∧ q.2.length ≤ B.length + q.1 ∧ problemsS ps f = q.2 ++ missL FS q.1 (ps.drop q.1)) (fun q => ps.length - q.1) (0, B) (by simp [hF, hB]) ⟨by simp, by simp, hps⟩ ?_
          rintro ⟨k, out⟩ ⟨hk, hol, he⟩
          simp only at hk hol he
          by_cases h : k < ps.length
          · have hks : k < FS.length := by omega
            have hset : (FS.map Slot.c).set k [C.bool FS[k].given, C.lst (FS[k].list.map ix), C.lst (FS[k].pairs.map Pair.c)] = FS.map Slot.c := by
              have e : [C.bool FS[k].given, C.lst (FS[k].list.map ix), C.lst (FS[k].pairs.map Pair.c)] = (FS.map Slot.c)[k]'(by simpa using hks) := by simp
              rw [e, List.set_getElem_self]
            rw [missL_step FS ps k h, missStep] at he
            simp only [List.getD_eq_getElem?_getD, List.getElem?_eq_getElem hks, Option.getD_some] at he
            simp [h]
            refine dr mixed ?_
            simp [h, hks]
            refine DC.ofD (c_Clip_Pair (FS[k].pairs.map Pair.c)) rfl (by simp) ?_
            simp [h, hks, hset]
            refine ⟨by kernel_rfl, ?_⟩
            refine call_d (c_impl_single ps[k]) rfl (by simp) ?_
            cases h1 : ps[k].single
            · rw [h1] at he
              simp
              exact ⟨k + 1, out, ⟨wrapN k (by omega), rfl⟩, ⟨by omega, by omega, by simpa using he⟩, by omega⟩
            · rw [h1] at he
              cases h2 : ps[k].hasDefault
              · rw [h2] at he
                simp [h2, hks]
                cases h3 : FS[k].given
                · rw [h3] at he
                  simp [h3]
                  exact ⟨⟨by omega, by omega⟩, k + 1, out ++ [⟨3, ps[k].name⟩], ⟨wrapN k (by omega), by simp⟩, ⟨by omega, by simp; omega, by simpa using he⟩, by omega⟩
                · rw [h3] at he
                  simp [h3]
                  exact ⟨k + 1, out, ⟨wrapN k (by omega), rfl⟩, ⟨by omega, by omega, by simpa using he⟩, by omega⟩
              · rw [h2] at he
                simp [h2]
                exact ⟨k + 1, out, ⟨wrapN k (by omega), rfl⟩, ⟨by omega, by omega, by simpa using he⟩, by omega⟩
          · simp [h]
            have hend : problemsS ps f = out := by rw [he, List.drop_of_length_le (by omega)]; simp [missL]
            refine fz 4 rfl ?_
            refine dr mixed ?_
            simp
            refine DC.ofD (c_Clip_Problem (out.map Problem.c)) rfl (by simp) ?_
            simp
            refine ⟨by kernel_rfl, ?_⟩
            simp [hend]
    · have hb0 := hbad0 (by rw [← hle, hlz]; rfl)
      simp
      have hsl0n : (slots1 ps f.places ps.length).length = ps.length := slots1_len _ _ _
      have hfin := bindS_slots hok f
      have hfinb := bindS_bad hok f
      unfold bindS at hfin hfinb
      rw [hm] at hfin
      generalize slots1 ps f.places ps.length = sl0 at *
      refine meet_g 2 [2, 3, 4, 6, 7] (fun i : Nat => ⟨[(2, .one (.ptr 0 0)), (3, .one (.ptr 1 0)), (4, .one (.ptr 2 0)), (6, .one (.ptr 3 0)), (7, .one (.ms 4))],
        [(0, .box [.c (.lst (ps.map Param.c))]), (1, .box [.c (.lst (f.places.map ix)), .c (.lst (f.names.map Pair.c))]), (2, .box [.nil]), (3, .box [.ms 5]), (4, .arr 2 ((nameS ps sl0 (bad0 ps f) (f.names.take i)).bad.map Problem.c)),
         (5, .arx 3 ((nameS ps sl0 (bad0 ps f) (f.names.take i)).slots.map Slot.c) [((natOr m ps.length, 2), .ms 6)]), (6, .arr 2 ((nameS ps sl0 (bad0 ps f) (f.names.take i)).pairs.map Pair.c))], 7⟩)
        (fun i => i = f.names.length) ?_ ?_
      · refine lp [2, 3, 4, 6, 7, 68, 69, 70] (fun i : Nat => ⟨[(2, .one (.ptr 0 0)), (3, .one (.ptr 1 0)), (4, .one (.ptr 2 0)), (6, .one (.ptr 3 0)), (7, .one (.ms 4)), (68, vprs f.names), (69, vi f.names.length), (70, vi i)],
          [(0, .box [.c (.lst (ps.map Param.c))]), (1, .box [.c (.lst (f.places.map ix)), .c (.lst (f.names.map Pair.c))]), (2, .box [.nil]), (3, .box [.ms 5]), (4, .arr 2 ((nameS ps sl0 (bad0 ps f) (f.names.take i)).bad.map Problem.c)),
         (5, .arx 3 ((nameS ps sl0 (bad0 ps f) (f.names.take i)).slots.map Slot.c) [((natOr m ps.length, 2), .ms 6)]), (6, .arr 2 ((nameS ps sl0 (bad0 ps f) (f.names.take i)).pairs.map Pair.c))], 7⟩)
          (fun i => i ≤ f.names.length) (fun i => f.names.length - i) 0 (by simp [nameS, hb0]) (by simp) ?_
        intro i hi
        by_cases h : i < f.names.length
        · simp [h]
          refine call_d (c_impl_takes ps f.names[i].name hp) rfl (by simp) ?_
          have hst := nameS_step (ps := ps) (sl := sl0) (b := bad0 ps f) h
          obtain ⟨l1, l2, l3⟩ := nameS_len ps sl0 (bad0 ps f) (f.names.take i)
          have hbl : (bad0 ps f).length ≤ 1 := by rw [hb0]; simp
          simp only [List.length_take] at l2 l3
          generalize nameS ps sl0 (bad0 ps f) (f.names.take i) = S at *
          unfold nameStep at hst
          cases h1 : decide (takesBy ps f.names[i].name < 0)
          · obtain ⟨k, hk, hkl, hkk⟩ := takesBy_nat (ps := ps) (s := f.names[i].name) (by simpa using h1)
            rw [hk] at hst ⊢
            have hs0 : k < S.slots.length := by omega
            have hk0 : ¬ ((k : Int) < 0) := by omega
            simp only [hk0, if_false, Int.toNat_natCast, List.getD_eq_getElem?_getD, List.getElem?_eq_getElem hkl, List.getElem?_eq_getElem hs0, Option.getD_some] at hst
            have hkn : decide ((k : Int) < 0) = false := by simpa using hk0
            simp [hkl, hkn]
            cases h2 : ps[k].kind == 4
            · rw [h2] at hst
              simp only [Bool.false_eq_true, if_false] at hst
              have e2 := hne4 k hkl (by simpa using h2)
              simp [hs0]
              cases h5 : S.slots[k].given
              · rw [h5] at hst
                simp only [Bool.false_eq_true, if_false] at hst
                simp [h, hs0, e2]
                exact ⟨i + 1, ⟨wrapN i (by omega), by rw [hst], by rw [hst]; simp only [List.map_set]; rfl, by rw [hst]⟩, by omega, by omega⟩
              · rw [h5] at hst
                simp only [if_true] at hst
                simp
                exact ⟨⟨by omega, by omega⟩, i + 1, ⟨wrapN i (by omega), by rw [hst]; simp⟩, by omega, by omega⟩
            · rw [h2] at hst
              simp only [if_true] at hst
              have hkm : m = k := by
                rcases hkk with h3 | ⟨h3, _⟩
                · simp [Param.named, show ps[k].kind = 4 by simpa using h2] at h3
                · rw [← hm, h3]
              subst hkm
              simp
              refine dr mixed ?_
              simp [h, hkl, hs0]
              exact ⟨⟨by omega, by omega⟩, by kernel_rfl, i + 1, ⟨wrapN i (by omega), by rw [hst], by rw [hst], by rw [hst]; simp⟩, by omega, by omega⟩
          · have hk0 : takesBy ps f.names[i].name < 0 := by simpa using h1
            rw [if_pos hk0] at hst
            simp [h1]
            exact ⟨⟨by omega, by omega⟩, i + 1, ⟨wrapN i (by omega), by rw [hst]; simp⟩, by omega, by omega⟩
        · have : i = f.names.length := by omega
          subst this
          simp
      · rintro i rfl
        refine ⟨_, (fzS 6 rfl).trans ((gcS 5 rfl rfl rfl (fun k s' r' e h => by cases e; change Blk.frz _ = _ at h; cases h)).trans (gaS 5 rfl)), ?_⟩
        simp
        have hF : setC ((nameS ps sl0 (bad0 ps f) f.names).slots.map Slot.c) (natOr m ps.length) 2 (.lst ((nameS ps sl0 (bad0 ps f) f.names).pairs.map Pair.c)) = (boundSlots ps f).map Slot.c := by rw [setC_pairs, hfin]
        have hFl := boundSlots_len ps f
        have hbl := boundS_bad ps f
        have hps : problemsS ps f = (boundS ps f).bad ++ missL (boundSlots ps f) 0 (ps.drop 0) := rfl
        rw [← hfinb] at hbl hps
        generalize hB : (nameS ps sl0 (bad0 ps f) f.names).bad = B at *
        generalize hFS : boundSlots ps f = FS at *
        refine lp [2, 3, 4, 6, 7, 132, 133, 134] (fun q : Nat × List Problem => ⟨[(2, .one (.ptr 0 0)), (3, .one (.ptr 1 0)), (4, .one (.ptr 2 0)), (6, .one (.ptr 3 0)), (7, .one (.ms 4)), (132, vps ps), (133, vi ps.length), (134, vi q.1)],
          [(0, .box [.c (.lst (ps.map Param.c))]), (1, .box [.c (.lst (f.places.map ix)), .c (.lst (f.names.map Pair.c))]), (2, .box [.nil]), (3, .box [.ms 5]), (4, .arr 2 (q.2.map Problem.c)), (5, .arr 3 (FS.map Slot.c))], 6⟩)
          (fun q => q.1 ≤ ps.length ∧ q.2.length ≤ B.length + q.1 ∧ problemsS ps f = q.2 ++ missL FS q.1 (ps.drop q.1)) (fun q => ps.length - q.1) (0, B) (by simp [hF, hB]) ⟨by simp, by simp, hps⟩ ?_
        rintro ⟨k, out⟩ ⟨hk, hol, he⟩
        simp only at hk hol he
        by_cases h : k < ps.length
        · have hks : k < FS.length := by omega
          have hset : (FS.map Slot.c).set k [C.bool FS[k].given, C.lst (FS[k].list.map ix), C.lst (FS[k].pairs.map Pair.c)] = FS.map Slot.c := by
            have e : [C.bool FS[k].given, C.lst (FS[k].list.map ix), C.lst (FS[k].pairs.map Pair.c)] = (FS.map Slot.c)[k]'(by simpa using hks) := by simp
            rw [e, List.set_getElem_self]
          rw [missL_step FS ps k h, missStep] at he
          simp only [List.getD_eq_getElem?_getD, List.getElem?_eq_getElem hks, Option.getD_some] at he
          simp [h]
          refine dr mixed ?_
          simp [h, hks]
          refine DC.ofD (c_Clip_Pair (FS[k].pairs.map Pair.c)) rfl (by simp) ?_
          simp [h, hks, hset]
          refine ⟨by kernel_rfl, ?_⟩
          refine call_d (c_impl_single ps[k]) rfl (by simp) ?_
          cases h1 : ps[k].single
          · rw [h1] at he
            simp
            exact ⟨k + 1, out, ⟨wrapN k (by omega), rfl⟩, ⟨by omega, by omega, by simpa using he⟩, by omega⟩
          · rw [h1] at he
            cases h2 : ps[k].hasDefault
            · rw [h2] at he
              simp [h2, hks]
              cases h3 : FS[k].given
              · rw [h3] at he
                simp [h3]
                exact ⟨⟨by omega, by omega⟩, k + 1, out ++ [⟨3, ps[k].name⟩], ⟨wrapN k (by omega), by simp⟩, ⟨by omega, by simp; omega, by simpa using he⟩, by omega⟩
              · rw [h3] at he
                simp [h3]
                exact ⟨k + 1, out, ⟨wrapN k (by omega), rfl⟩, ⟨by omega, by omega, by simpa using he⟩, by omega⟩
            · rw [h2] at he
              simp [h2]
              exact ⟨k + 1, out, ⟨wrapN k (by omega), rfl⟩, ⟨by omega, by omega, by simpa using he⟩, by omega⟩
        · simp [h]
          have hend : problemsS ps f = out := by rw [he, List.drop_of_length_le (by omega)]; simp [missL]
          refine fz 4 rfl ?_
          refine dr mixed ?_
          simp
          refine DC.ofD (c_Clip_Problem (out.map Problem.c)) rfl (by simp) ?_
          simp
          refine ⟨by kernel_rfl, ?_⟩
          simp [hend]
end Go.Proofs.K
/- The contracts of the program's Bind, Accepts and AcceptsShape. -/
namespace Go.Proofs.K
open Go Go.Proofs Go.IntWalk

def bR (sl : List Slot) : Bool → PV × List (Nat × List (List C))
  | false => (.tup [.agg [.nil], vb false], [])
  | true => (.tup [.agg [.ms 0], vb true], [(3, sl.map Slot.c)])
@[simp] theorem bR_f (sl : List Slot) : bR sl false = (.tup [.agg [.nil], vb false], []) := rfl
@[simp] theorem bR_t (sl : List Slot) : bR sl true = (.tup [.agg [.ms 0], vb true], [(3, sl.map Slot.c)]) := rfl
def acceptsI (ps : List Param) (f : Flat) : Bool := sigOk ps && flatOk f && acceptsS ps f

theorem c_impl_Bind (ps : List Param) (f : Flat) (hp : SFit ps) (hf : FFit f) (hs : ∀ p ∈ f.names, Fit p.name.size) :
    Con Tryz.prog 49 [vsig ps, vflat f] (fun r ms => r = (bR (boundSlots ps f) (acceptsI ps f)).1 ∧ ms = (bR (boundSlots ps f) (acceptsI ps f)).2) := by
  refine con_intro fi49 (by simp) ?_
  dsimp only [bodyOf, Tryz.f49, Option.getD]; simp
  refine call_d (c_impl_fit ps f hp hf hs) rfl (by simp) ?_
  unfold acceptsI
  cases h : sigOk ps && flatOk f
  · simp
  · rw [Bool.and_eq_true] at h
    simp
    refine call_c (c_impl_bind ps f h.1 hp hf) rfl ?_
    unfold acceptsS
    cases h1 : decide ((problemsS ps f).length = 0)
    · have h1' : 0 < (problemsS ps f).length := by have : ¬ (problemsS ps f).length = 0 := of_decide_eq_false h1; omega
      have h2 : ((problemsS ps f).length == 0) = false := by rw [beq_eq_false_iff_ne]; omega
      simp [h1', h2]
    · have h1' : (problemsS ps f).length = 0 := by simpa using h1
      simp [h1']

theorem c_impl_Accepts (ps : List Param) (f : Flat) (hp : SFit ps) (hf : FFit f) (hs : ∀ p ∈ f.names, Fit p.name.size) :
    Con Tryz.prog 15 [vsig ps, vflat f] (fun r ms => r = vb (acceptsI ps f) ∧ ms = []) := by
  refine con_intro fi15 (by simp) ?_
  dsimp only [bodyOf, Tryz.f15, Option.getD]; simp
  refine call_c (c_impl_Bind ps f hp hf hs) rfl ?_
  cases acceptsI ps f <;> simp

theorem flatOfS_fit {x : Shape} (h : shapeOk x = true) : FFit (flatOfS x) ∧ ∀ p ∈ (flatOfS x).names, Fit p.name.size := by
  unfold shapeOk inR at h
  simp only [Bool.and_eq_true, decide_eq_true_eq] at h
  obtain ⟨⟨h1, h2⟩, h3⟩ := h
  rw [namesOk_iff] at h1
  refine ⟨⟨by simp [flatOfS]; omega, by simp [flatOfS]; omega⟩, fun p hp => ?_⟩
  simp only [flatOfS, List.mem_map] at hp
  obtain ⟨s, hs, rfl⟩ := hp
  have := h1.1 s hs
  unfold nameOk inR at this
  simp only [Bool.and_eq_true, decide_eq_true_eq] at this
  show Fit s.size
  omega

theorem c_impl_AcceptsShape (ps : List Param) (n : Nat) (l : List ByteArray) (hok : sigOk ps = true) (hp : SFit ps) (hl : Fit l.length) (hs : ∀ s ∈ l, Fit s.size) :
    Con Tryz.prog 30 [vsig ps, vsh ⟨n, l⟩] (fun r ms => r = vb (acceptsShapeI ps ⟨n, l⟩) ∧ ms = []) := by
  refine con_intro fi30 (by simp) ?_
  dsimp only [bodyOf, Tryz.f30, Option.getD]; simp
  refine dr mixed ?_
  simp
  refine DC.of (c_impl_ValidShape n l hl hs) rfl (by simp) ?_
  unfold acceptsShapeI
  cases h : shapeOk ⟨n, l⟩
  · simp
    exact (by kernel_rfl : _ = true)
  · simp
    refine DC.of (c_impl_FlatOf n l hl hs h) rfl (by simp) ?_
    simp
    refine DC.of (c_impl_Accepts ps (flatOfS ⟨n, l⟩) hp (flatOfS_fit h).1 (flatOfS_fit h).2) rfl (by simp) ?_
    simp
    refine ⟨by kernel_rfl, ?_⟩
    simp [acceptsI, hok, flatOk_shape h]
end Go.Proofs.K
/- The contract of the program's someNames. -/
namespace Go.Proofs.K
open Go Go.Proofs Go.IntWalk

def trimR (s : ByteArray) (c : UInt8) : ByteArray := bl (Lib.trimRightB s.data.toList c)

theorem c_TrimRight (s : ByteArray) (c : UInt8) (hc : c.toNat < 128) (hs : Fit s.size) : Con Tryz.prog 144 [vs s, vs ⟨#[c]⟩] (fun r ms => r = vs (trimR s c) ∧ ms = []) := by
  refine Con.scalar fi144.callable fun F w vs h => ?_
  obtain ⟨v, u, rfl, h1, h2⟩ := args2 h
  rw [arg_str h1, arg_str h2]
  refine (Tryz.strings_TrimRight_one s c hc w (by omega)).mono ?_
  rintro e w' ⟨rfl, rfl⟩
  exact ⟨rfl, _, rfl, RepC.str _⟩

def nextI (s : ByteArray) : ByteArray :=
  if s.size < 6 then s ++ ⟨#[97]⟩ else (trimR s 122).extract 0 ((trimR s 122).size - 1) ++ Utf8.encode (bt (trimR s 122) ((trimR s 122).size - 1) + 1)
theorem nextI_all : ((List.range 40).all fun k => decide (nextI (nm k) = nm (k + 1)) && decide ((nm (k + 1)).size ≤ 6) && (decide ((nm k).size < 6) || (decide ((nm k).size = 6) && decide (0 < (trimR (nm k) 122).size) && decide ((trimR (nm k) 122).size ≤ 6) && decide (97 ≤ bt (trimR (nm k) 122) ((trimR (nm k) 122).size - 1)) && decide (bt (trimR (nm k) 122) ((trimR (nm k) 122).size - 1) ≤ 121)))) = true := by kernel_rfl

theorem c_impl_someNames (a b : List Param) (ha : sigOk a = true) (hb : sigOk b = true) (fa : SFit a) (fb : SFit b) : Con Tryz.prog 99 [vsig a, vsig b] (fun r ms => r = .one (.ms 0) ∧ ms = [(1, (someNamesI a b).map tx)]) := by
  have la := (sigOk_at ha).2
  have lb := (sigOk_at hb).2
  refine con_intro fi99 (by simp) ?_
  dsimp only [bodyOf, Tryz.f99, Option.getD]; simp
  refine call_d (c_Concat_Param (a.map Param.c) (b.map Param.c) (by simp) (by simp) (by simp; omega) (by simp; omega)) rfl (by simp) ?_
  simp
  have hR : namesP (a ++ b) = namesP a ++ namesP b := by simp [namesP]
  rw [← List.map_append]
  have hll : (a ++ b).length ≤ 16 := by rw [List.length_append]; omega
  have hlen : (a.length : Int) + b.length = ((a ++ b).length : Int) := by rw [List.length_append]; omega
  rw [hlen]
  unfold someNamesI
  rw [← hR]
  generalize hl : a ++ b = l at *
  refine (gvS 5 1 (by simp)).aw ?_
  refine lp [5, 16, 17, 18] (fun k : Nat => ⟨[(5, .one (.ms 0)), (16, .one (.ms 1)), (17, vi l.length), (18, vi k)], [(0, .arr 1 ((namesP (l.take k)).map tx)), (1, .arr 4 (l.map Param.c))], 2⟩)
    (fun k => k ≤ l.length) (fun k => l.length - k) 0 (by simp [namesP]) (by simp) ?_
  intro k hk
  by_cases h : k < l.length
  · simp [h]
    refine ⟨by rw [namesP_len]; simp; omega, k + 1, ⟨wrapN k (by omega), by rw [takeP l k h]; simp⟩, by omega, by omega⟩
  · have : k = l.length := by omega
    subst this
    simp
    have h40 := nextI_all
    rw [List.all_eq_true] at h40
    have hnl := namesP_len l
    refine lp [5, 8, 28] (fun k : Nat => ⟨[(5, .one (.ms 0)), (8, vs (nm k)), (28, vi k)], [(0, .arr 1 ((namesP l ++ (List.range k).map nm).map tx))], 1⟩)
      (fun k => k ≤ 40) (fun k => 40 - k) 0 (by simp [namesP, nm, nmL]) (by simp) ?_
    intro k hk
    by_cases h : k < 40
    · have h' : (k : Int) < 40 := by omega
      have hs := h40 k (by simpa using h)
      simp only [Bool.and_eq_true, Bool.or_eq_true, decide_eq_true_eq] at hs
      obtain ⟨⟨hs, hz⟩, hc⟩ := hs
      have hrg : (List.range (k + 1)).map nm = (List.range k).map nm ++ [nm k] := by rw [List.range_succ, List.map_append]; rfl
      unfold nextI at hs
      rcases hc with hlt | ⟨⟨⟨⟨h6, h0⟩, h0'⟩, h97⟩, h121⟩
      · have hlt' : ((nm k).size : Int) < 6 := by omega
        rw [if_pos hlt] at hs
        simp [h', hlt']
        refine ⟨by omega, by show (nm k).size + 1 ≤ _; omega, k + 1, ⟨⟨hs, wrapN k (by omega)⟩, by rw [← List.map_map, ← List.map_map, hrg]; simp⟩, by omega, by omega⟩
      · have hlt' : ¬ ((nm k).size : Int) < 6 := by omega
        rw [if_neg (by omega)] at hs
        simp [h', hlt']
        refine ⟨by omega, ?_⟩
        refine call_d (c_TrimRight (nm k) 122 (by decide) (by omega)) rfl (by simp) ?_
        generalize trimR (nm k) 122 = t at *
        have hne : t ≠ ⟨#[]⟩ := fun e => by rw [e] at h0; cases h0
        have wt : IntKind.i64.wrap ((t.size : Int) - 1) = (t.size : Int) - 1 := i64_in _ (by omega)
        have wu : IntKind.u8.wrap (bt t ((t.size : Int) - 1) + 1) = bt t ((t.size : Int) - 1) + 1 := u8_in _ (by omega)
        simp [wt]
        refine dr mixed ?_
        have wi : IntKind.i32.wrap (bt t ((t.size : Int) - 1) + 1) = bt t ((t.size : Int) - 1) + 1 := i32_in _ (by omega)
        have hsz : t.size - 1 + (Utf8.encode (bt t ((t.size : Int) - 1) + 1)).size ≤ 6 := by
          have := congrArg ByteArray.size hs
          rw [ByteArray.size_append, ByteArray.size_extract] at this
          omega
        simp [wt, wu, wi, hne]
        refine ⟨⟨by omega, by omega⟩, ⟨by omega, by omega⟩, by omega, by kernel_rfl, ?_⟩
        exact ⟨k + 1, ⟨⟨hs, wrapN k (by omega)⟩, by rw [← List.map_map, ← List.map_map, hrg]; simp⟩, by omega, by omega⟩
    · have : k = 40 := by omega
      subst this
      simp
      refine call_d (c_impl_union (namesP l ++ (List.range 40).map nm) [] (by simp; omega) (by simp)) (by simp) (by simp) ?_
      simp
end Go.Proofs.K
/- The contracts of the program's FirstRefused, Fits and SameShapes. -/
namespace Go.Proofs.K
open Go Go.Proofs Go.IntWalk

theorem namesP_fit {a : List Param} (fa : SFit a) : ∀ x ∈ namesP a, Fit x.size := fun x hx => by
  simp only [namesP, List.mem_map] at hx
  obtain ⟨p, hp, rfl⟩ := hx
  exact fa.names p hp
theorem needT_fit {a : List Param} (fa : SFit a) (n : Nat) : ∀ x ∈ needT a n, Fit x.size := fun x hx => namesP_fit fa x (needL_names (needT_mem.1 hx))
theorem nameOk_size {s : ByteArray} (h : nameOk s = true) : s.size ≤ 6 := by
  unfold nameOk inR at h
  simp only [Bool.and_eq_true, decide_eq_true_eq] at h
  omega
theorem someNames_fit {a b : List Param} (fa : SFit a) (fb : SFit b) : ∀ x ∈ someNamesI a b, Fit x.size := fun x hx => by
  unfold someNamesI at hx
  rw [sortT_mem, List.mem_append, List.mem_append] at hx
  rcases hx with (hx | hx) | hx
  · exact namesP_fit fa x hx
  · exact namesP_fit fb x hx
  · simp only [List.mem_map, List.mem_range] at hx
    obtain ⟨k, hk, rfl⟩ := hx
    have := nameOk_size (nm_ok hk)
    omega
theorem someNames_len (a b : List Param) : (someNamesI a b).length ≤ a.length + b.length + 40 := by
  unfold someNamesI
  refine Nat.le_trans (sortT_len _) ?_
  simp [namesP]; omega

theorem c_impl_firstRefused (a b : List Param) (ha : sigOk a = true) (hb : sigOk b = true) (fa : SFit a) (fb : SFit b) :
    Con Tryz.prog 52 [vsig a, vsig b] (fun r ms => r = (shR (firstRefusedS a b)).1 ∧ ms = (shR (firstRefusedS a b)).2) := by
  have la := (sigOk_at ha).2
  have lb := (sigOk_at hb).2
  have hs : (sigOk a && sigOk b) = true := by rw [ha, hb]; rfl
  refine con_intro fi52 (by simp) ?_
  dsimp only [bodyOf, Tryz.f52, Option.getD]; simp
  refine lp [2, 3, 4, 6] (fun k : Nat => ⟨[(2, .one (.ptr 0 0)), (3, .one (.ptr 1 0)), (4, .one (.ptr 2 0)), (6, vi k)], [(0, .box [.c (.lst (a.map Param.c))]), (1, .box [.c (.lst (b.map Param.c))]), (2, .box [.c (.int .i64 0), .nil])], 3⟩)
    (fun k => k ≤ 9 ∧ refusedIn a b k = none) (fun k => 9 - k) 0 (by simp) (by simp [refusedIn]) ?_
  intro k ⟨hk, hno⟩
  by_cases h : k ≤ 8
  · have h' : (k : Int) ≤ 8 := by omega
    have hin : inR (k : Int) 0 8 = true := by unfold inR; simp; omega
    have hr := refused_eq (a := a) (b := b) (n := k) ha hb h
    have next : refusedAtI a b k = none → ∃ a' : Nat, IntKind.i64.wrap (↑k + 1) = ↑a' ∧ (a' ≤ 9 ∧ refusedIn a b a' = none) ∧ 9 - a' < 9 - k := fun hx =>
      ⟨k + 1, wrapN k (by omega), ⟨by omega, by rw [refusedIn_step a b k hno, ← hr, hx]⟩, by omega⟩
    have hnl := needT_len (a := a) (n := k)
    have hnf := needT_fit fa k
    simp [h']
    refine call_d (c_impl_needs a k (by omega) ha fa) rfl ?_ ?_
    · cases needsI a k <;> simp
    · unfold needsI
      rw [hin]
      cases h1 : takesN a k
      · simp
        exact next (by unfold refusedAtI; rw [if_pos h1])
      · simp
        refine call_d (c_impl_AcceptsShape b k (needT a k) hb fb (by omega) hnf) (by simp) (by simp) ?_
        cases h2 : acceptsShapeI b ⟨k, needT a k⟩
        · have hx : refusedAtI a b k = some ⟨k, needT a k⟩ := by unfold refusedAtI; rw [if_neg (by simp [h1]), if_pos h2]
          rw [firstRefusedS_at hs (by omega) hno (by rw [← hr, hx])]
          simp
        · simp
          refine call_d (c_impl_someNames a b ha hb fa fb) rfl (by simp) ?_
          simp
          have hrI : refusedAtI a b k = ((someNamesI a b).find? (candI a b k)).map fun s => ⟨k, sortT (needT a k ++ [s])⟩ := by unfold refusedAtI; rw [if_neg (by simp [h1]), if_neg (by simp [h2])]
          have hsl := someNames_len a b
          have hsf := someNames_fit fa fb
          generalize someNamesI a b = L at *
          refine lp [2, 3, 4, 6, 7, 35, 36, 37] (fun i : Nat => ⟨[(2, .one (.ptr 0 0)), (3, .one (.ptr 1 0)), (4, .one (.ptr 2 0)), (6, vi k), (7, .one (.ms 3)), (35, .one (.ms 4)), (36, vi L.length), (37, vi i)],
              [(0, .box [.c (.lst (a.map Param.c))]), (1, .box [.c (.lst (b.map Param.c))]), (2, .box [.c (.int .i64 0), .nil]), (3, .arr 1 ((needT a k).map tx)), (4, .arr 1 (L.map tx))], 5⟩)
            (fun i => i ≤ L.length ∧ ∀ j (hj : j < L.length), j < i → candI a b k L[j] = false) (fun i => L.length - i) 0 (by simp) (by simp) ?_
          intro i ⟨hi, hcn⟩
          by_cases hl : i < L.length
          · simp [hl]
            refine call_d (c_impl_union (needT a k) [L[i]] (by omega) (by simp)) (by simp) (by simp) ?_
            simp
            have go : candI a b k L[i] = false → ∃ i' : Nat, IntKind.i64.wrap (↑i + 1) = ↑i' ∧ (i' ≤ L.length ∧ ∀ j (hj : j < L.length), j < i' → candI a b k L[j] = false) ∧ L.length - i' < L.length - i := fun hc =>
              ⟨i + 1, wrapN i (by omega), ⟨by omega, fun j hj hjk => by
                by_cases e : j = i
                · subst e; exact hc
                · exact hcn j hj (by omega)⟩, by omega⟩
            have hU : ∀ x ∈ sortT (needT a k ++ [L[i]]), Fit x.size := fun x hx => by
              rw [sortT_mem, List.mem_append] at hx
              rcases hx with hx | hx
              · exact hnf x hx
              · simp only [List.mem_singleton] at hx; subst hx; exact hsf _ (List.getElem_mem _)
            have hUl : (sortT (needT a k ++ [L[i]])).length ≤ 9 := Nat.le_trans (sortT_len _) (by simp; omega)
            have hun : candI a b k L[i] = (!hasT (needT a k) L[i] && acceptsShapeI a ⟨k, sortT (needT a k ++ [L[i]])⟩ && !acceptsShapeI b ⟨k, sortT (needT a k ++ [L[i]])⟩) := rfl
            have hfin : candI a b k L[i] = true → firstRefusedS a b = some ⟨k, sortT (needT a k ++ [L[i]])⟩ := fun hc => by
              refine firstRefusedS_at hs (by omega) hno ?_
              rw [← hr, hrI, find_none' (k := i) hi hcn, List.drop_eq_getElem_cons hl, List.find?_cons, hc]; rfl
            generalize sortT (needT a k ++ [L[i]]) = U at *
            refine call_d (c_Contains_string (needT a k) L[i] (by omega)) (by simp) (by simp) ?_
            cases h3 : hasT (needT a k) L[i]
            · rw [h3] at hun
              simp
              refine call_d (c_impl_AcceptsShape a k U ha fa (by omega) hU) (by simp) (by simp) ?_
              cases h4 : acceptsShapeI a ⟨k, U⟩
              · rw [h4] at hun
                simp
                exact go (by simpa using hun)
              · rw [h4] at hun
                simp
                refine call_d (c_impl_AcceptsShape b k U hb fb (by omega) hU) (by simp) (by simp) ?_
                cases h5 : acceptsShapeI b ⟨k, U⟩
                · rw [h5] at hun
                  rw [hfin (by simpa using hun)]
                  simp
                · rw [h5] at hun
                  simp
                  exact go (by simpa using hun)
            · rw [h3] at hun
              simp
              exact go (by simpa using hun)
          · simp [hl]
            exact next (by rw [hrI, find_none' (k := i) hi hcn, List.drop_of_length_le (by omega)]; rfl)
  · have h' : ¬ (k : Int) ≤ 8 := by omega
    simp [h']
    have : k = 9 := by omega
    subst this
    unfold firstRefusedS
    rw [if_pos hs]
    unfold refusedIn at hno
    rw [hno]; simp

theorem c_impl_FirstRefused (a b : List Param) (fa : SFit a) (fb : SFit b) :
    Con Tryz.prog 26 [vsig a, vsig b] (fun r ms => r = (shR (firstRefusedS a b)).1 ∧ ms = (shR (firstRefusedS a b)).2) := by
  refine con_intro fi26 (by simp) ?_
  dsimp only [bodyOf, Tryz.f26, Option.getD]; simp
  refine call_d (c_impl_ValidSignature a fa) rfl (by simp) ?_
  cases ha : sigOk a
  · simp [firstRefusedS, ha]
  · simp
    refine call_d (c_impl_ValidSignature b fb) rfl (by simp) ?_
    cases hb : sigOk b
    · simp [firstRefusedS, hb]
    · simp
      refine call_d (c_impl_firstRefused a b ha hb fa fb) rfl ?_ ?_
      · cases firstRefusedS a b <;> simp
      · cases firstRefusedS a b <;> simp

theorem c_impl_Fits (a b : List Param) (fa : SFit a) (fb : SFit b) : Con Tryz.prog 18 [vsig a, vsig b] (fun r ms => r = vb (fitsS a b) ∧ ms = []) := by
  refine con_intro fi18 (by simp) ?_
  dsimp only [bodyOf, Tryz.f18, Option.getD]; simp
  unfold fitsS
  refine call_d (c_impl_ValidSignature a fa) rfl (by simp) ?_
  cases ha : sigOk a
  · simp
  · simp
    refine call_d (c_impl_ValidSignature b fb) rfl (by simp) ?_
    cases hb : sigOk b
    · simp
    · simp
      refine call_d (c_impl_firstRefused a b ha hb fa fb) rfl ?_ ?_
      · cases firstRefusedS a b <;> simp
      · cases firstRefusedS a b <;> simp

theorem c_impl_SameShapes (a b : List Param) (fa : SFit a) (fb : SFit b) : Con Tryz.prog 24 [vsig a, vsig b] (fun r ms => r = vb (fitsS a b && fitsS b a) ∧ ms = []) := by
  refine con_intro fi24 (by simp) ?_
  dsimp only [bodyOf, Tryz.f24, Option.getD]; simp
  refine call_d (c_impl_Fits a b fa fb) rfl (by simp) ?_
  cases h : fitsS a b
  · simp
  · simp
    refine call_d (c_impl_Fits b a fb fa) rfl (by simp) ?_
    simp
end Go.Proofs.K
/- The laws' sizes, copies and looks at signatures. -/
namespace Go.Proofs.K
open Go Go.Proofs Go.IntWalk

theorem c_szParam (p : Param) (n : Int) (hs : Big p.name.size) (h0 : 0 ≤ n) (hn : n ≤ 1048576) : Con Tryz.prog 102 [p.v, vi n] (fun r ms => r = vi (lessZ n p.name.size) ∧ ms = []) := by
  have w1 : IntKind.i64.wrap (n - p.name.size) = n - p.name.size := i64_in _ (by omega)
  refine con_intro fi102 (by simp) ?_
  dsimp only [bodyOf, Tryz.f102, Option.getD]; simp [w1]
  unfold lessZ
  by_cases h : n - p.name.size < 0
  · simp [h]
  · simp [h]

theorem c_szParamS (ps : List Param) (n : Int) (hl : Big ps.length) (hs : ∀ p ∈ ps, Big p.name.size) (h0 : 0 ≤ n) (hn : n ≤ 1048576) : Con Tryz.prog 53 [vps ps, vi n] (fun r ms => r = vi (szPs ps n) ∧ ms = []) := by
  have w1 : IntKind.i64.wrap (n - ps.length) = n - ps.length := i64_in _ (by omega)
  refine con_intro fi53 (by simp) ?_
  dsimp only [bodyOf, Tryz.f53, Option.getD]; simp [w1]
  unfold szPs
  by_cases h : n - ps.length < 0
  · simp [h]
  · simp [h]
    refine lp [0, 1, 5] (fun x : Nat × Int => ⟨[(0, vps ps), (1, vi x.2), (5, vi x.1)], [], 0⟩)
      (fun x => x.1 ≤ ps.length ∧ 0 ≤ x.2 ∧ x.2 ≤ n ∧ szP ps (n - ps.length) = szP (ps.drop x.1) x.2) (fun x => ps.length - x.1) (0, n - ps.length) (by simp) (by simp; omega) ?_
    rintro ⟨k, m⟩ ⟨hk, hm0, hmn, he⟩
    simp only at hk hm0 hmn he
    by_cases hkl : k < ps.length
    · simp [hkl]
      have hd := List.drop_eq_getElem_cons hkl
      refine call_d (c_szParam ps[k] m (hs _ (by simp)) hm0 (by omega)) rfl (by simp) ?_
      rw [hd] at he
      simp only [szP] at he
      unfold lessZ
      by_cases h1 : m - ps[k].name.size < 0
      · rw [if_pos h1] at he
        simp [h1, he]
      · rw [if_neg h1] at he
        simp [h1]
        exact ⟨k + 1, m - ps[k].name.size, ⟨rfl, wrapN k (by omega)⟩, ⟨by omega, by omega, by omega, he⟩, by omega⟩
    · simp [hkl]
      rw [he, List.drop_of_length_le (by omega)]
      rfl

theorem c_szSignature (ps : List Param) (n : Int) (hl : Big ps.length) (hs : ∀ p ∈ ps, Big p.name.size) (h0 : 0 ≤ n) (hn : n ≤ 1048576) : Con Tryz.prog 19 [vsig ps, vi n] (fun r ms => r = vi (szPs ps n) ∧ ms = []) := by
  refine con_intro fi19 (by simp) ?_
  dsimp only [bodyOf, Tryz.f19, Option.getD]; simp
  refine call_d (c_szParamS ps n hl hs h0 hn) rfl (by simp) ?_
  have := szPs_ge ps n
  by_cases h : szPs ps n < 0
  · simp [h]
    omega
  · simp [h]

theorem c_toParam (p : Param) : Con Tryz.prog 103 [p.v] (fun r ms => r = p.v ∧ ms = []) := by
  refine con_intro fi103 (by simp) ?_
  dsimp only [bodyOf, Tryz.f103, Option.getD]
  simp -implicitDefEqProofs

theorem c_toParamS (ps : List Param) (hl : Fit ps.length) : Con Tryz.prog 56 [vps ps] (fun r ms => r = .one (.ms 0) ∧ ms = [(4, ps.map Param.c)]) := by
  refine con_intro fi56 (by simp) ?_
  dsimp only [bodyOf, Tryz.f56, Option.getD]; simp
  refine ⟨⟨by omega, by omega⟩, ?_⟩
  refine lp [0, 3, 4] (fun k : Nat => ⟨[(0, vps ps), (3, .one (.ms 0)), (4, vi k)], [(0, .arr 4 (growR (ps.map Param.c) [.str ⟨#[]⟩, .int .i64 0, .bool false, .int .i64 0] k))], 1⟩) (fun k => k ≤ ps.length) (fun k => ps.length - k) 0 (by simp [growR_zero]) (by simp) ?_
  intro k hk
  have hlen := growR_len (ps.map Param.c) [.str ⟨#[]⟩, .int .i64 0, .bool false, .int .i64 0] k
  rw [List.length_map] at hlen
  by_cases h : k < ps.length
  · have hs := growR_set (ps.map Param.c) [.str ⟨#[]⟩, .int .i64 0, .bool false, .int .i64 0] k (by simpa using h)
    have hdr := growR_drop (l := ps.map Param.c) (z := [.str ⟨#[]⟩, .int .i64 0, .bool false, .int .i64 0]) (k := k) (n := 4) (by simp) rfl
    generalize growR (ps.map Param.c) [.str ⟨#[]⟩, .int .i64 0, .bool false, .int .i64 0] k = rows at hs hlen hdr
    simp [h]
    refine call_d (c_toParam ps[k]) rfl (by simp) ?_
    simp [h, hlen]
    rw [hdr k (by omega)]
    exact ⟨k + 1, ⟨wrapN k (by omega), by rw [← hs]; simp⟩, by omega, by omega⟩
  · have : k = ps.length := by omega
    subst this
    have ha := growR_all (ps.map Param.c) [.str ⟨#[]⟩, .int .i64 0, .bool false, .int .i64 0] ps.length (by simp)
    rw [ha]
    simp

theorem c_toSignature (ps : List Param) (hl : Fit ps.length) : Con Tryz.prog 21 [vsig ps] (fun r ms => r = .agg [.ms 0] ∧ ms = [(4, ps.map Param.c)]) := by
  refine con_intro fi21 (by simp) ?_
  dsimp only [bodyOf, Tryz.f21, Option.getD]; simp
  refine call_d (c_toParamS ps hl) rfl (by simp) ?_
  simp

theorem c_eqParam (p : Param) : Con Tryz.prog 104 [p.v, p.v] (fun r ms => r = vb true ∧ ms = []) := by
  refine con_intro fi104 (by simp) ?_
  dsimp only [bodyOf, Tryz.f104, Option.getD]; simp

theorem c_eqParamS (ps : List Param) (hl : Fit ps.length) : Con Tryz.prog 57 [vps ps, vps ps] (fun r ms => r = vb true ∧ ms = []) := by
  refine con_intro fi57 (by simp) ?_
  dsimp only [bodyOf, Tryz.f57, Option.getD]; simp
  refine lp [0, 1, 5] (fun k : Nat => ⟨[(0, vps ps), (1, vps ps), (5, vi k)], [], 0⟩) (fun k => k ≤ ps.length) (fun k => ps.length - k) 0 (by simp) (by simp) ?_
  intro k hk
  by_cases h : k < ps.length
  · simp [h]
    refine dr mixed ?_
    simp [h]
    refine DC.of (c_eqParam ps[k]) rfl (by simp) ?_
    simp
    refine ⟨by kernel_rfl, ?_⟩
    exact ⟨k + 1, wrapN k (by omega), by omega, by omega⟩
  · simp [h]

theorem c_eqSignature (ps : List Param) (hl : Fit ps.length) : Con Tryz.prog 22 [vsig ps, vsig ps] (fun r ms => r = vb true ∧ ms = []) := by
  refine con_intro fi22 (by simp) ?_
  dsimp only [bodyOf, Tryz.f22, Option.getD]; simp
  refine call_d (c_eqParamS ps hl) rfl (by simp) ?_
  simp
end Go.Proofs.K
