/- Contracts of the reference. -/
import Derived.Test.YtbaekjnfijmakaaGreatDoorKe
import Derived.Test.YtbaekjnfijmakaaGreatDoorKd
set_option linter.unnecessarySimpa false
set_option linter.unusedSimpArgs false
set_option linter.unusedVariables false
set_option maxRecDepth 20000
/- The contracts of the small functions of spec. -/
namespace Go.Proofs.K
open Go Go.Proofs Go.IntWalk
theorem c_spec_inRange (a b c : Int) : Con Tryz.prog 72 [vi a, vi b, vi c] (fun r ms => r = vb (inR a b c) ∧ ms = []) := by
  refine con_intro fi72 (by simp) ?_
  dsimp only [bodyOf, Tryz.f72, Option.getD]; by_cases h : b ≤ a <;> simp [inR, h]

theorem c_impl_in (a b c : Int) : Con Tryz.prog 62 [vi a, vi b, vi c] (fun r ms => r = vb (inR a b c) ∧ ms = []) := by
  refine con_intro fi62 (by simp) ?_
  dsimp only [bodyOf, Tryz.f62, Option.getD]; by_cases h : b ≤ a <;> simp [inR, h]

theorem c_spec_validNumber (a : Int) : Con Tryz.prog 173 [vi a] (fun r ms => r = vb (inR a (-99) 99) ∧ ms = []) := by
  refine con_intro fi173 (by simp) ?_
  dsimp only [bodyOf, Tryz.f173, Option.getD]; simp
  refine call_d (c_spec_inRange _ _ _) rfl (by simp) ?_
  simp

theorem c_impl_isValue (a : Int) : Con Tryz.prog 63 [vi a] (fun r ms => r = vb (inR a (-99) 99) ∧ ms = []) := by
  refine con_intro fi63 (by simp) ?_
  dsimp only [bodyOf, Tryz.f63, Option.getD]; simp
  refine call_d (c_impl_in _ _ _) rfl (by simp) ?_
  simp

theorem c_spec_validName (s : ByteArray) (hs : Fit s.size) : Con Tryz.prog 174 [vs s] (fun r ms => r = vb (nameOk s) ∧ ms = []) := by
  refine con_intro fi174 (by simp) ?_
  dsimp only [bodyOf, Tryz.f174, Option.getD]; simp
  refine lp [0, 3] (fun k : Nat => ⟨[(0, vs s), (3, vi k)], [], 0⟩) (fun k => k ≤ s.size ∧ ∀ j, j < k → lowAt s j = true) (fun k => s.size - k) 0 (by simp) (by simp) ?_
  intro k ⟨hk, hno⟩
  by_cases h : k < s.size
  · by_cases h1 : bt s k < 97
    · simp [h, h1]
      exact nameOk_no h (by simp [lowAt]; omega)
    · simp [h, h1]
      refine br_i (fun h2 => ?_) (fun h2 => ?_)
      · simp; simp at h2
        exact nameOk_no h (by simp [lowAt]; omega)
      · simp; simp at h2
        exact ⟨k + 1, by rw [wrapN k (by omega)], ⟨by omega, fun j hj => by
        rcases Nat.lt_or_ge j k with h3 | h3
        · exact hno j h3
        · have : j = k := by omega
          subst this; simp [lowAt]; omega⟩, by omega⟩
  · simp [h]
    refine call_d (c_spec_inRange _ _ _) rfl (by simp) ?_
    simp
    exact (nameOk_yes fun j hj => hno j (by omega)).symm
end Go.Proofs.K
/- The contracts of small functions on parameters. -/
namespace Go.Proofs.K
open Go Go.Proofs Go.IntWalk
theorem c_spec_byPlace (p : Param) : Con Tryz.prog 130 [p.v] (fun r ms => r = vb p.placed ∧ ms = []) := by
  refine con_intro fi130 (by simp) ?_
  dsimp only [bodyOf, Tryz.f130, Option.getD]
  cases h : p.kind == 0 <;> simp [h, Param.placed]

theorem c_spec_byName (p : Param) : Con Tryz.prog 131 [p.v] (fun r ms => r = vb p.named ∧ ms = []) := by
  refine con_intro fi131 (by simp) ?_
  dsimp only [bodyOf, Tryz.f131, Option.getD]
  cases h : p.kind == 1 <;> simp [h, Param.named]

theorem c_spec_isSingle (p : Param) : Con Tryz.prog 163 [p.v] (fun r ms => r = vb p.single ∧ ms = []) := by
  refine con_intro fi163 (by simp) ?_
  dsimp only [bodyOf, Tryz.f163, Option.getD]; simp
  refine call_d (c_spec_byPlace p) rfl (by simp) ?_
  cases h : p.placed
  · simp
    refine call_d (c_spec_byName p) rfl (by simp) ?_
    simp
    simp [Param.placed] at h
    simp [Param.single, Param.placed, Param.named, beq_eq_false_iff_ne.2 h.1, beq_eq_false_iff_ne.2 h.2]
  · simp
    simp [Param.single, h]

theorem c_impl_placed (p : Param) : Con Tryz.prog 65 [p.v] (fun r ms => r = vb p.placed ∧ ms = []) := by
  refine con_intro fi65 (by simp) ?_
  dsimp only [bodyOf, Tryz.f65, Option.getD]
  cases h : p.kind == 0 <;> simp [h, Param.placed]

theorem c_impl_named (p : Param) : Con Tryz.prog 171 [p.v] (fun r ms => r = vb p.named ∧ ms = []) := by
  refine con_intro fi171 (by simp) ?_
  dsimp only [bodyOf, Tryz.f171, Option.getD]
  cases h : p.kind == 1 <;> simp [h, Param.named]

theorem c_impl_single (p : Param) : Con Tryz.prog 64 [p.v] (fun r ms => r = vb p.single ∧ ms = []) := by
  refine con_intro fi64 (by simp) ?_
  dsimp only [bodyOf, Tryz.f64, Option.getD]; simp
  refine call_d (c_impl_placed p) rfl (by simp) ?_
  cases h : p.placed <;> simp [Param.single, h]

theorem c_spec_findParam (ps : List Param) (s : ByteArray) (hp : Fit ps.length) : Con Tryz.prog 165 [vps ps, vs s] (fun r ms => r = vi (idxOf (fun p => decide (p.name = s)) ps) ∧ ms = []) := by
  refine con_intro fi165 (by simp) ?_
  dsimp only [bodyOf, Tryz.f165, Option.getD]; simp
  refine lp [0, 1, 5] (fun k : Nat => ⟨[(0, vps ps), (1, vs s), (5, vi k)], [], 0⟩) (fun k => k ≤ ps.length ∧ ∀ j (h : j < ps.length), j < k → decide (ps[j].name = s) = false) (fun k => ps.length - k) 0 (by simp) (by simp) ?_
  intro k ⟨hk, hno⟩
  by_cases h : k < ps.length
  · by_cases h1 : ps[k].name = s
    · simp [h, h1]
      exact (idxOf_hit h (by simpa using h1) hno).symm
    · simp [h, h1]
      exact ⟨k + 1, by rw [wrapN k (by omega)], ⟨by omega, fun j hj hjk => by
        by_cases e : j = k
        · subst e; exact h1
        · simpa using hno j hj (by omega)⟩, by omega⟩
  · simp [h]
    exact (idxOf_none fun j hj => hno j hj (by omega)).symm

theorem c_spec_kindAt (ps : List Param) (s : Int) (hp : Fit ps.length) : Con Tryz.prog 149 [vps ps, vi s] (fun r ms => r = vi (idxOf (fun p => p.kind == s) ps) ∧ ms = []) := by
  refine con_intro fi149 (by simp) ?_
  dsimp only [bodyOf, Tryz.f149, Option.getD]; simp
  refine lp [0, 1, 5] (fun k : Nat => ⟨[(0, vps ps), (1, vi s), (5, vi k)], [], 0⟩) (fun k => k ≤ ps.length ∧ ∀ j (h : j < ps.length), j < k → (ps[j].kind == s) = false) (fun k => ps.length - k) 0 (by simp) (by simp) ?_
  intro k ⟨hk, hno⟩
  by_cases h : k < ps.length
  · cases h1 : ps[k].kind == s
    · simp [h, h1]
      exact ⟨k + 1, by rw [wrapN k (by omega)], ⟨by omega, fun j hj hjk => by
        by_cases e : j = k
        · subst e; simpa using h1
        · simpa using hno j hj (by omega)⟩, by omega⟩
    · simp [h, h1]
      exact (idxOf_hit h h1 hno).symm
  · simp [h]
    exact (idxOf_none fun j hj => hno j hj (by omega)).symm

theorem c_spec_hasText (l : List ByteArray) (s : ByteArray) (hp : Fit l.length) : Con Tryz.prog 151 [vl (l.map fun x => [C.str x]), vs s] (fun r ms => r = vb (l.any fun x => decide (x = s)) ∧ ms = []) := by
  refine con_intro fi151 (by simp) ?_
  dsimp only [bodyOf, Tryz.f151, Option.getD]; simp
  refine lp [0, 1, 5] (fun k : Nat => ⟨[(0, vl (l.map fun x => [C.str x])), (1, vs s), (5, vi k)], [], 0⟩) (fun k => k ≤ l.length ∧ ∀ j (h : j < l.length), j < k → l[j] ≠ s) (fun k => l.length - k) 0 (by simp) (by simp) ?_
  intro k ⟨hk, hno⟩
  by_cases h : k < l.length
  · by_cases h1 : l[k] = s
    · simp [h, h1]
      rw [← h1]; simp
    · simp [h, h1]
      exact ⟨k + 1, by rw [wrapN k (by omega)], ⟨by omega, fun j hj hjk => by
        by_cases e : j = k
        · subst e; exact h1
        · exact hno j hj (by omega)⟩, by omega⟩
  · simp [h]
    intro x hm
    obtain ⟨i, hi, rfl⟩ := List.getElem_of_mem hm
    exact hno i hi (by omega)

theorem c_spec_placeCount (ps : List Param) (hp : Fit ps.length) : Con Tryz.prog 129 [vsig ps] (fun r ms => r = vi (cnt Param.placed ps) ∧ ms = []) := by
  refine con_intro fi129 (by simp) ?_
  dsimp only [bodyOf, Tryz.f129, Option.getD]; simp
  refine lp [1, 3, 4] (fun k : Nat => ⟨[(1, .one (.ptr 0 0)), (3, vi (cnt Param.placed (ps.take k))), (4, vi k)], [(0, .box [.c (.lst (ps.map Param.c))])], 1⟩) (fun k => k ≤ ps.length) (fun k => ps.length - k) 0 (by simp [cnt]) (by simp) ?_
  intro k hk
  by_cases h : k < ps.length
  · simp [h]
    refine call_d (c_spec_byPlace ps[k]) rfl (by simp) ?_
    have hc : cnt Param.placed (ps.take k) < 4294967296 := Nat.lt_of_le_of_lt cnt_le (by simp; omega)
    cases h1 : ps[k].placed
    · simp
      exact ⟨k + 1, ⟨by rw [cnt_take h, h1]; simp, by rw [wrapN k (by omega)]⟩, by omega, by omega⟩
    · simp
      exact ⟨k + 1, ⟨by rw [cnt_take h, h1, wrapN _ hc]; simp, by rw [wrapN k (by omega)]⟩, by omega, by omega⟩
  · have : k = ps.length := by omega
    subst this
    simp

theorem c_spec_open (p : Param) (i n : Int) : Con Tryz.prog 150 [p.v, vi i, vi n] (fun r ms => r = vb (p.kind == 3 || p.kind == 1 && decide (n ≤ i)) ∧ ms = []) := by
  refine con_intro fi150 (by simp) ?_
  dsimp only [bodyOf, Tryz.f150, Option.getD]
  cases h : p.kind == 3
  · cases h1 : p.kind == 1 <;> simp [h, h1]
  · simp [h]
end Go.Proofs.K
/- The contracts of spec's looks at signatures. -/
namespace Go.Proofs.K
open Go Go.Proofs Go.IntWalk
theorem c_spec_validParam (p : Param) (hs : Fit p.name.size) : Con Tryz.prog 164 [p.v] (fun r ms => r = vb p.ok ∧ ms = []) := by
  refine con_intro fi164 (by simp) ?_
  obtain ⟨nm, kd, hd, df⟩ := p
  dsimp only [bodyOf, Tryz.f164, Option.getD]; simp
  refine call_d (c_spec_validName nm hs) rfl (by simp) ?_
  cases h1 : nameOk nm
  · simp [Param.ok, h1]
  · simp
    refine call_d (c_spec_inRange _ _ _) rfl (by simp) ?_
    cases h2 : inR kd 0 4
    · simp [Param.ok, h2]
    · simp
      refine call_d (c_spec_validNumber _) rfl (by simp) ?_
      cases h3 : inR df (-99) 99
      · simp [Param.ok, h3]
      · cases hd
        · by_cases h5 : df = 0
          · subst h5
            simp
            refine call_d (c_spec_isSingle ⟨nm, kd, false, 0⟩) rfl (by simp) ?_
            cases h6 : (Param.mk nm kd false 0).single <;> simp [Param.ok, h1, h2, h3, h6]
          · simp [h5, Param.ok, beq_eq_false_iff_ne.2 h5]
        · simp
          refine call_d (c_spec_isSingle ⟨nm, kd, true, df⟩) rfl (by simp) ?_
          cases h6 : (Param.mk nm kd true df).single <;> simp [Param.ok, h1, h2, h3, h6]

theorem c_spec_validParams (ps : List Param) (hp : Fit ps.length) (hs : ∀ p ∈ ps, Fit p.name.size) : Con Tryz.prog 128 [vps ps] (fun r ms => r = vb (sigOk ps) ∧ ms = []) := by
  refine con_intro fi128 (by simp) ?_
  dsimp only [bodyOf, Tryz.f128, Option.getD]; simp
  refine lp [0, 3] (fun k : Nat => ⟨[(0, vps ps), (3, vi k)], [], 0⟩) (fun k => k ≤ ps.length ∧ ∀ j (h : j < ps.length), j < k → goodAt ps j ps[j] = true) (fun k => ps.length - k) 0 (by simp) (by simp) ?_
  intro k ⟨hk, hno⟩
  by_cases h : k < ps.length
  · simp [h]
    refine dr mixed ?_
    simp
    refine DC.of (c_spec_validParam ps[k] (hs _ (by simp))) rfl (by simp) ?_
    cases h1 : ps[k].ok
    · simp
      refine ⟨by kernel_rfl, ?_⟩
      exact sigOk_no h (by simp [goodAt, badAt, h1])
    · simp [hk]
      refine DC.of (c_spec_findParam (ps.take k) ps[k].name (by simp; omega)) (by simp) (by simp) ?_
      generalize hi : idxOf (fun q => decide (q.name = ps[k].name)) (ps.take k) = fi
      cases h2 : decide (0 ≤ fi)
      · simp [h2]
        refine ⟨by kernel_rfl, ?_⟩
        have hb : badAt ps k ps[k] = false := by simp [badAt, h1, hi, h2]
        cases k with
        | zero =>
          simp [h]
          exact ⟨1, rfl, ⟨by omega, fun j hj hjk => by
            obtain rfl : j = 0 := by omega
            simpa [goodAt] using hb⟩, by omega⟩
        | succ j =>
          have hj0 : ((j : Int) + 1 == 0) = false := by simp; omega
          have hj1 : j < ps.length := by omega
          simp [h, i64_in (j : Int) (by omega), hj0, hj1]
          have fin : ∀ (hbb : badBy ps[j] ps[j + 1] = false), ∃ x' : Nat, IntKind.i64.wrap (↑j + 1 + 1) = ↑x' ∧ (x' ≤ ps.length ∧ ∀ i (h : i < ps.length), i < x' → goodAt ps i ps[i] = true) ∧ ps.length - x' < ps.length - (j + 1) := fun hbb => ⟨j + 2, by
            have := wrapN (j + 1) (by omega)
            simpa [Int.add_assoc] using this, ⟨by omega, fun i hi hik => by
              by_cases e : i = j + 1
              · subst e; simp [goodAt, hb, hbb, hj1]
              · exact hno i hi (by omega)⟩, by omega⟩
          cases h3 : decide (ps[j + 1].kind < ps[j].kind)
          · simp [h3]
            cases h4 : ps[j + 1].kind == ps[j].kind
            · simp
              refine call_d (c_spec_byPlace ps[j + 1]) rfl (by simp) ?_
              cases h6 : ps[j + 1].placed
              · simp
                exact fin (by simp [badBy, h3, h4, h6])
              · simp
                cases h7 : ps[j].hasDefault
                · simp
                  exact fin (by simp [badBy, h3, h4, h7])
                · simp
                  cases h8 : ps[j + 1].hasDefault
                  · simp
                    exact sigOk_no h (by simp [goodAt, badBy, h3, h4, h6, h7, h8, hj1])
                  · simp
                    exact fin (by simp [badBy, h3, h4, h8])
            · simp
              refine call_d (c_spec_isSingle ps[j + 1]) rfl (by simp) ?_
              cases h5 : ps[j + 1].single
              · simp
                exact sigOk_no h (by simp [goodAt, badBy, h3, h4, h5, hj1])
              · simp
                refine call_d (c_spec_byPlace ps[j + 1]) rfl (by simp) ?_
                cases h6 : ps[j + 1].placed
                · simp
                  exact fin (by simp [badBy, h3, h4, h5, h6])
                · simp
                  cases h7 : ps[j].hasDefault
                  · simp
                    exact fin (by simp [badBy, h3, h4, h5, h7])
                  · simp
                    cases h8 : ps[j + 1].hasDefault
                    · simp
                      exact sigOk_no h (by simp [goodAt, badBy, h3, h4, h5, h6, h7, h8, hj1])
                    · simp
                      exact fin (by simp [badBy, h3, h4, h5, h8])
          · simp [h3]
            exact sigOk_no h (by simp [goodAt, badBy, h3, hj1])
      · simp [h2]
        refine ⟨by kernel_rfl, ?_⟩
        exact sigOk_no h (by simp [goodAt, badAt, h1, hi, h2])
  · simp [h]
    rw [sigOk_yes fun j hj => hno j hj (by omega)]; simp; omega
end Go.Proofs.K
/- The contracts of spec's functions on signatures and lists of texts. -/
namespace Go.Proofs.K
open Go Go.Proofs Go.IntWalk
theorem c_spec_validSignature (ps : List Param) (hp : SFit ps) : Con Tryz.prog 89 [vsig ps] (fun r ms => r = vb (sigOk ps) ∧ ms = []) := by
  refine con_intro fi89 (by simp) ?_
  dsimp only [bodyOf, Tryz.f89, Option.getD]; simp
  refine call_d (c_spec_validParams ps hp.len hp.names) rfl (by simp) ?_
  simp

theorem c_spec_twoSignatures (ps qs : List Param) (hp : SFit ps) (hq : SFit qs) : Con Tryz.prog 54 [vsig ps, vsig qs] (fun r ms => r = vb (sigOk ps && sigOk qs) ∧ ms = []) := by
  refine con_intro fi54 (by simp) ?_
  dsimp only [bodyOf, Tryz.f54, Option.getD]; simp
  refine call_d (c_spec_validSignature ps hp) rfl (by simp) ?_
  cases h : sigOk ps
  · simp
  · simp
    refine call_d (c_spec_validSignature qs hq) rfl (by simp) ?_
    simp

theorem c_spec_takesName (ps : List Param) (s : ByteArray) (hp : SFit ps) : Con Tryz.prog 176 [vsig ps, vs s] (fun r ms => r = vi (takesBy ps s) ∧ ms = []) := by
  refine con_intro fi176 (by simp) ?_
  dsimp only [bodyOf, Tryz.f176, Option.getD]; simp
  refine call_d (c_spec_findParam ps s hp.len) rfl (by simp) ?_
  have hl := idxOf_nat (q := fun p => decide (p.name = s)) (l := ps)
  have hlow := idxOf_lt (q := fun p => decide (p.name = s)) (l := ps)
  unfold takesBy
  generalize idxOf (fun p => decide (p.name = s)) ps = k at *
  cases h0 : decide (0 ≤ k)
  · simp [h0]
    refine call_d (c_spec_kindAt ps 4 hp.len) rfl (by simp) ?_
    simp [h0]
  · obtain ⟨n, rfl, hn, _⟩ := hl (by simpa using h0)
    simp [hn]
    refine call_d (c_spec_byName ps[n]) rfl (by simp) ?_
    cases h1 : ps[n].named
    · simp
      refine call_d (c_spec_kindAt ps 4 hp.len) rfl (by simp) ?_
      simp [h1]
    · simp [h1]

theorem c_spec_sortedTexts (l : List ByteArray) (hl : Fit l.length) : Con Tryz.prog 110 [vtx l] (fun r ms => r = .one (.ms 0) ∧ ms = [(1, (sortT l).map tx)]) := by
  refine con_intro fi110 (by simp) ?_
  dsimp only [bodyOf, Tryz.f110, Option.getD]; simp
  refine lp [0, 3, 4] (fun i : Nat => ⟨[(0, vtx l), (3, .one (.ms 0)), (4, vi i)], [(0, .arr 1 ((sortT (l.take i)).map tx))], 1⟩) (fun i => i ≤ l.length) (fun i => l.length - i) 0 (by simp [sortT]) (by simp) ?_
  intro i hi
  by_cases h : i < l.length
  · simp [h]
    have hol : (sortT (l.take i)).length < 4294967296 := by have := sortT_len (l.take i); simp at this; omega
    generalize ho : sortT (l.take i) = out at *
    refine lp [0, 3, 4, 5] (fun k : Nat => ⟨[(0, vtx l), (3, .one (.ms 0)), (4, vi i), (5, vi k)], [(0, .arr 1 (out.map tx))], 1⟩) (fun k => k ≤ out.length ∧ ∀ j (h : j < out.length), j < k → sls out[j] l[i] = true) (fun k => out.length - k) 0 (by simp) (by simp) ?_
    intro k ⟨hk, hno⟩
    simp
    by_cases h2 : k < out.length
    · refine dr mixed ?_
      simp [h2, h]
      refine ⟨by kernel_rfl, ?_⟩
      have e1 : ((k : Int) == (out.length : Int)) = false := by simp; omega
      cases h3 : sls out[k] l[i]
      · have hat : insAt out l[i] = k := insAt_is hk hno fun _ => h3
        simp
        refine dr mixed ?_
        simp [h2, h, e1]
        refine ⟨by kernel_rfl, ?_⟩
        cases h4 : decide (out[k] = l[i])
        · simp
          refine fz 0 rfl ?_
          refine dr mixed ?_
          simp [h2, h, hk]
          refine ⟨⟨tx_take, by omega, by omega⟩, ⟨by omega, by omega⟩, ⟨tx_drop, by omega, by omega⟩, by kernel_rfl, i + 1, ⟨wrapN i (by omega), ?_⟩, by omega, by omega⟩
          have hne : out[k] ≠ l[i] := by simpa using h4
          rw [sortT_take h, ho, insT, hat, List.getElem?_eq_getElem h2, if_neg (by simpa using hne)]
          simp
        · simp
          refine ⟨i + 1, ⟨wrapN i (by omega), ?_⟩, by omega, by omega⟩
          have he : out[k] = l[i] := by simpa using h4
          rw [sortT_take h, ho, insT, hat, List.getElem?_eq_getElem h2, if_pos (by simpa using he)]
      · simp
        exact ⟨k + 1, wrapN k (by omega), ⟨by omega, fun j hj hjk => by
          by_cases e : j = k
          · subst e; exact h3
          · exact hno j hj (by omega)⟩, by omega⟩
    · have hk2 : k = out.length := by omega
      subst hk2
      have hat : insAt out l[i] = out.length := insAt_is hk hno fun hh => absurd hh (by omega)
      refine dr mixed ?_
      simp [h]
      refine ⟨by kernel_rfl, ?_⟩
      refine dr mixed ?_
      simp [h]
      refine ⟨by kernel_rfl, ?_⟩
      refine fz 0 rfl ?_
      refine dr mixed ?_
      simp [h]
      refine ⟨⟨by omega, by omega⟩, ⟨by omega, by omega⟩, by kernel_rfl, i + 1, ⟨wrapN i (by omega), ?_⟩, by omega, by omega⟩
      rw [sortT_take h, ho, insT, hat]
      simp
  · have : i = l.length := by omega
    subst this
    simp
end Go.Proofs.K
/- The contracts of spec's functions on shapes. -/
namespace Go.Proofs.K
open Go Go.Proofs Go.IntWalk
theorem c_spec_takesCount (ps : List Param) (n : Nat) (hp : SFit ps) (hn : Fit n) : Con Tryz.prog 106 [vsig ps, vi n] (fun r ms => r = vb (takesN ps n) ∧ ms = []) := by
  have hpl := hp.len
  have loop : ∀ (hb : (decide (cnt Param.placed ps < n) && decide (idxOf (fun p => p.kind == 2) ps < 0)) = false), takesN ps n = (ps.drop n).all fun p => !(p.kind == 0 && !p.hasDefault) := fun hb => by
    unfold takesN; rw [hb]; rfl
  refine con_intro fi106 (by simp) ?_
  dsimp only [bodyOf, Tryz.f106, Option.getD]; simp
  refine call_d (c_spec_placeCount ps hp.len) rfl (by simp) ?_
  cases h1 : decide (cnt Param.placed ps < n)
  · have h1' : ¬ cnt Param.placed ps < n := by simpa using h1
    simp [h1']
    refine lp [1, 2, 5] (fun k : Nat => ⟨[(1, vi n), (2, .one (.ptr 0 0)), (5, vi k)], [(0, .box [.c (.lst (ps.map Param.c))])], 1⟩)
      (fun k => n ≤ k ∧ ((ps.drop n).all fun p => !(p.kind == 0 && !p.hasDefault)) = (ps.drop k).all fun p => !(p.kind == 0 && !p.hasDefault)) (fun k => ps.length - k) n (by simp) (by simp) ?_
    intro k ⟨hk, he⟩
    by_cases h : k < ps.length
    · rw [drop_all _ _ _ h] at he
      cases h2 : ps[k].kind == 0
      · simp [h, h2]
        rw [h2] at he
        exact ⟨k + 1, wrapN k (by omega), ⟨by omega, by simpa using he⟩, by omega⟩
      · simp [h, h2]
        rw [h2] at he
        cases h3 : ps[k].hasDefault
        · simp [h3]
          rw [loop (by simp [h1]), he, h3]; rfl
        · simp [h3]
          rw [h3] at he
          exact ⟨k + 1, wrapN k (by omega), ⟨by omega, by simpa using he⟩, by omega⟩
    · simp [h]
      rw [loop (by simp [h1]), he, drop_end _ _ _ h]
  · have h1' : cnt Param.placed ps < n := by simpa using h1
    simp [h1']
    refine call_d (c_spec_kindAt ps 2 hp.len) rfl (by simp) ?_
    cases h4 : decide (idxOf (fun p => p.kind == 2) ps < 0)
    · simp [h4]
      refine lp [1, 2, 5] (fun k : Nat => ⟨[(1, vi n), (2, .one (.ptr 0 0)), (5, vi k)], [(0, .box [.c (.lst (ps.map Param.c))])], 1⟩)
        (fun k => n ≤ k ∧ ((ps.drop n).all fun p => !(p.kind == 0 && !p.hasDefault)) = (ps.drop k).all fun p => !(p.kind == 0 && !p.hasDefault)) (fun k => ps.length - k) n (by simp) (by simp) ?_
      intro k ⟨hk, he⟩
      by_cases h : k < ps.length
      · rw [drop_all _ _ _ h] at he
        cases h2 : ps[k].kind == 0
        · simp [h, h2]
          rw [h2] at he
          exact ⟨k + 1, wrapN k (by omega), ⟨by omega, by simpa using he⟩, by omega⟩
        · simp [h, h2]
          rw [h2] at he
          cases h3 : ps[k].hasDefault
          · simp [h3]
            rw [loop (by simp [h4]), he, h3]; rfl
          · simp [h3]
            rw [h3] at he
            exact ⟨k + 1, wrapN k (by omega), ⟨by omega, by simpa using he⟩, by omega⟩
      · simp [h]
        rw [loop (by simp [h4]), he, drop_end _ _ _ h]
    · simp [h4]
      simp [takesN, h1', h4]

theorem c_spec_needs (ps : List Param) (n : Int) (hp : SFit ps) : Con Tryz.prog 107 [vsig ps, vi n] (fun r ms => r = .one (.ms 0) ∧ ms = [(1, (sortT (needL n 0 ps)).map tx)]) := by
  have hpl := hp.len
  refine con_intro fi107 (by simp) ?_
  dsimp only [bodyOf, Tryz.f107, Option.getD]; simp
  refine lp [1, 2, 5, 6] (fun q : Nat × List ByteArray => ⟨[(1, vi n), (2, .one (.ptr 0 0)), (5, .one (.ms 1)), (6, vi q.1)], [(0, .box [.c (.lst (ps.map Param.c))]), (1, .arr 1 (q.2.map tx))], 2⟩)
    (fun q => q.1 ≤ ps.length ∧ q.2.length ≤ q.1 ∧ needL n 0 ps = q.2 ++ needL n q.1 (ps.drop q.1)) (fun q => ps.length - q.1) (0, []) (by simp) (by simp) ?_
  rintro ⟨k, out⟩ ⟨hk, hol, he⟩
  simp only at hk hol he
  by_cases h : k < ps.length
  · simp [h]
    refine call_d (c_spec_open ps[k] k n) rfl (by simp) ?_
    rw [needL_step n ps k h] at he
    have hop : (ps[k].kind == 3 || ps[k].kind == 1 && decide (n ≤ (k : Int))) = ps[k].opn k n := rfl
    simp only [hop]
    cases h1 : ps[k].opn k n
    · simp
      rw [h1] at he
      exact ⟨k + 1, out, ⟨wrapN k (by omega), rfl⟩, ⟨by omega, by omega, by simpa using he⟩, by omega⟩
    · simp [h]
      rw [h1] at he
      cases h2 : ps[k].hasDefault
      · simp [h]
        rw [h2] at he
        exact ⟨⟨by omega, by omega⟩, k + 1, out ++ [ps[k].name], ⟨wrapN k (by omega), by simp⟩, ⟨by omega, by simp; omega, by simpa using he⟩, by omega⟩
      · simp
        rw [h2] at he
        exact ⟨k + 1, out, ⟨wrapN k (by omega), rfl⟩, ⟨by omega, by omega, by simpa using he⟩, by omega⟩
  · simp [h]
    refine call_d (c_spec_sortedTexts out (by omega)) rfl (by simp) ?_
    simp
    rw [he, List.drop_of_length_le (by omega)]
    simp [needL]

theorem c_spec_flatOf (n : Nat) (names : List ByteArray) (hn : Fit n) (hl : Fit names.length) : Con Tryz.prog 108 [.agg [.c (.int .i64 n), .c (.lst (names.map tx))]]
    (fun r ms => r = .agg [.ms 0, .ms 1] ∧ ms = [(1, (List.replicate n 0).map ix), (2, (names.map fun s => Pair.mk s 0).map Pair.c)]) := by
  refine con_intro fi108 (by simp) ?_
  dsimp only [bodyOf, Tryz.f108, Option.getD]; simp
  refine ⟨⟨by omega, by omega⟩, ?_⟩
  refine lp [1, 2, 3, 4] (fun k : Nat => ⟨[(1, .one (.ptr 0 0)), (2, .one (.ptr 1 0)), (3, .one (.ptr 2 0)), (4, vi k)],
    [(0, .box [.c (.int .i64 n), .c (.lst (names.map tx))]), (1, .box [.nil, .nil]), (2, .box [.ms 3, .ms 4]), (3, .arr 1 (List.replicate n (ix 0))), (4, .arr 2 (((names.take k).map fun s => Pair.mk s 0).map Pair.c))], 5⟩)
    (fun k => k ≤ names.length) (fun k => names.length - k) 0 (by simp) (by simp) ?_
  intro k hk
  by_cases h : k < names.length
  · simp [h]
    refine dr mixed ?_
    simp [h]
    refine ⟨⟨by omega, by omega⟩, by kernel_rfl, k + 1, ⟨wrapN k (by omega), ?_⟩, by omega, by omega⟩
    rw [List.take_add_one]
    simp [h]
  · have : k = names.length := by omega
    subst this
    simp
end Go.Proofs.K
/- The contract of spec's bound. -/
namespace Go.Proofs.K
open Go Go.Proofs Go.IntWalk
theorem c_spec_bound (ps : List Param) (f : Flat) (hp : SFit ps) (hf : FFit f) (hpre : ∀ i (h : i < ps.length), i < cnt Param.placed ps → ps[i].placed = true) :
    Con Tryz.prog 141 [vsig ps, vflat f] (fun r ms => r = .tup [.agg [.ms 0], .one (.ms 1)] ∧ ms = [(3, (boundSlots ps f).map Slot.c), (2, (boundS ps f).bad.map Problem.c)]) := by
  have hpl := hp.len
  have hfp := hf.places
  have hfn := hf.names
  refine con_intro fi141 (by simp) ?_
  dsimp only [bodyOf, Tryz.f141, Option.getD]; simp
  refine scall_inline fi175 (by simp) ?_
  dsimp only [bodyOf, Tryz.f175, Option.getD]; simp
  refine ⟨⟨by omega, by omega⟩, ?_⟩
  refine call_d (c_spec_placeCount ps hp.len) rfl (by simp) ?_
  simp
  refine call_d (c_spec_kindAt ps 2 hp.len) rfl (by simp) ?_
  simp
  have hpc : cnt Param.placed ps ≤ ps.length := cnt_le
  generalize hr : idxOf (fun p => p.kind == 2) ps = r
  generalize hm : idxOf (fun p => p.kind == 4) ps = m
  generalize hc : cnt Param.placed ps = pc at *
  have hov : ∀ i j p, ovG [((natOr r ps.length, 1), P1.nil), ((natOr m ps.length, 2), P1.nil)] i j = some p → p = .nil ∧ [P1.c (C.bool false), P1.nil, P1.nil][j]? = some .nil := fun i j p h => by
    simp only [ovG] at h
    split at h
    · rename_i e; cases h; rw [e.2]; exact ⟨rfl, rfl⟩
    · split at h
      · rename_i e; cases h; rw [e.2]; exact ⟨rfl, rfl⟩
      · cases h
  refine ((goS 5 [((natOr r ps.length, 1), P1.nil), ((natOr m ps.length, 2), P1.nil)] rfl rfl hov).trans ((gnS 5 (natOr r ps.length) 1 1 rfl (by simp)).trans (gnS 5 (natOr m ps.length) 2 2 rfl (by simp)))).aw ?_
  simp
  refine lp [2, 3, 4, 6, 7, 8, 9, 10] (fun i : Nat => ⟨[(2, .one (.ptr 0 0)), (3, .one (.ptr 1 0)), (4, .one (.ptr 2 0)), (6, .one (.ptr 3 0)), (7, .one (.ms 4)), (8, vi pc), (9, vi r), (10, vi i)],
    [(0, .box [.c (.lst (ps.map Param.c))]), (1, .box [.c (.lst (f.places.map ix)), .c (.lst (f.names.map Pair.c))]), (2, .box [.nil]), (3, .box [.ms 5]), (4, .arr 2 []),
     (5, .arx 3 ((slotsA ps.length f.places pc i).map Slot.c) [((natOr r ps.length, 1), .ms 6), ((natOr m ps.length, 2), .ms 7)]), (6, .arr 1 ((restA f.places pc r i).map ix)), (7, .arr 2 [])], 8⟩)
    (fun i => i ≤ f.places.length) (fun i => f.places.length - i) 0 (by simp [slotsA_zero, restA]) (by simp) ?_
  have hne : ∀ (k : Nat) (s : Int), (s ≠ 0 ∧ s ≠ 1) → ∀ (x : Int), idxOf (fun p => p.kind == s) ps = x → k < pc → ¬ k = natOr x ps.length := fun k s hs x hx hk e => by
    unfold natOr at e
    split at e
    · rename_i h0
      rw [← hx] at h0
      obtain ⟨n, hn, hnl, hq, _⟩ := idxOf_nat h0
      have : k = n := by rw [← hx, hn] at e; simpa using e
      subst this
      have h2 := hpre k hnl hk
      have h3 : ps[k].kind = s := by simpa using hq
      simp [Param.placed, h3, hs.1, hs.2] at h2
    · omega
  intro i hi
  by_cases h : i < f.places.length
  · by_cases h1 : i < pc
    · have e1 := hne i 2 (by decide) r hr h1
      have e2 := hne i 4 (by decide) m hm h1
      have e3 : i < (slotsA ps.length f.places pc i).length := by simp [slotsA]; omega
      simp [h, h1]
      refine dr mixed ?_
      simp [h, e1, e2, e3]
      exact ⟨by kernel_rfl, i + 1, ⟨wrapN i (by omega), slotsA_set (by omega) h1 h, by rw [restA_lt h1]⟩, by omega, by omega⟩
    · simp [h, h1]
      by_cases h2 : 0 ≤ r
      · obtain ⟨k, hk, hkl, _⟩ := idxOf_nat (q := fun p : Param => p.kind == 2) (l := ps) (by rw [hr]; exact h2)
        rw [hr] at hk
        subst hk
        have hrl := restA_len (pl := f.places) (pc := pc) (i := i) (r := (k : Int))
        have e3 : k < (slotsA ps.length f.places pc i).length := by simp [slotsA]; omega
        have e4 : (slotsA ps.length f.places pc i).length = ps.length := by simp [slotsA]
        simp
        refine dr mixed ?_
        simp [h, e3, e4, hkl]
        exact ⟨⟨by omega, by omega⟩, by kernel_rfl, i + 1, ⟨wrapN i (by omega), by rw [slotsA_ge h1], by rw [restA_ge h1 h]; simp⟩, by omega, by omega⟩
      · have h2' : decide (0 ≤ r) = false := by simpa using h2
        simp [h2']
        exact ⟨i + 1, ⟨wrapN i (by omega), by rw [slotsA_ge h1], by rw [restA_neg h2, restA_neg h2]⟩, by omega, by omega⟩
  · have hie : i = f.places.length := by omega
    subst hie
    simp
    have hbad : bad0 ps f = if (decide (pc < f.places.length) && decide (r < 0)) = true then [⟨0, ⟨#[]⟩⟩] else [] := by unfold bad0; rw [hc, hr]
    generalize hsl0 : slotsA ps.length f.places pc f.places.length = sl0 at *
    have hsl0n : sl0.length = ps.length := by rw [← hsl0]; simp [slotsA]
    generalize hrl : restA f.places pc r f.places.length = rl at *
    cases hb : decide (pc < f.places.length) <;> cases hb2 : decide (r < 0)
    all_goals simp [hb, hb2]
    all_goals
      refine meet_g 3 [2, 3, 4, 6, 7, 11] (fun i : Nat => ⟨[(2, .one (.ptr 0 0)), (3, .one (.ptr 1 0)), (4, .one (.ptr 2 0)), (6, .one (.ptr 3 0)), (7, .one (.ms 4)), (11, vi i)],
        [(0, .box [.c (.lst (ps.map Param.c))]), (1, .box [.c (.lst (f.places.map ix)), .c (.lst (f.names.map Pair.c))]), (2, .box [.nil]), (3, .box [.ms 5]), (4, .arr 2 ((nameS ps sl0 (bad0 ps f) (f.names.take i)).bad.map Problem.c)),
         (5, .arx 3 ((nameS ps sl0 (bad0 ps f) (f.names.take i)).slots.map Slot.c) [((natOr r ps.length, 1), .ms 6), ((natOr m ps.length, 2), .ms 7)]), (6, .arr 1 (rl.map ix)), (7, .arr 2 ((nameS ps sl0 (bad0 ps f) (f.names.take i)).pairs.map Pair.c))], 8⟩)
        (fun i => i = f.names.length) ?_ ?_
      · refine lp [2, 3, 4, 6, 7, 11] (fun i : Nat => ⟨[(2, .one (.ptr 0 0)), (3, .one (.ptr 1 0)), (4, .one (.ptr 2 0)), (6, .one (.ptr 3 0)), (7, .one (.ms 4)), (11, vi i)],
          [(0, .box [.c (.lst (ps.map Param.c))]), (1, .box [.c (.lst (f.places.map ix)), .c (.lst (f.names.map Pair.c))]), (2, .box [.nil]), (3, .box [.ms 5]), (4, .arr 2 ((nameS ps sl0 (bad0 ps f) (f.names.take i)).bad.map Problem.c)),
           (5, .arx 3 ((nameS ps sl0 (bad0 ps f) (f.names.take i)).slots.map Slot.c) [((natOr r ps.length, 1), .ms 6), ((natOr m ps.length, 2), .ms 7)]), (6, .arr 1 (rl.map ix)), (7, .arr 2 ((nameS ps sl0 (bad0 ps f) (f.names.take i)).pairs.map Pair.c))], 8⟩)
          (fun i => i ≤ f.names.length) (fun i => f.names.length - i) 0 (by simp [nameS, hbad, hb, hb2]) (by simp) ?_
        intro i hi
        by_cases h : i < f.names.length
        · simp [h]
          refine call_d (c_spec_takesName ps f.names[i].name hp) rfl (by simp) ?_
          have hst := nameS_step (ps := ps) (sl := sl0) (b := bad0 ps f) h
          obtain ⟨l1, l2, l3⟩ := nameS_len ps sl0 (bad0 ps f) (f.names.take i)
          have hb0 : (bad0 ps f).length ≤ 1 := by unfold bad0; split <;> simp
          simp only [List.length_take] at l2 l3
          generalize nameS ps sl0 (bad0 ps f) (f.names.take i) = S at *
          unfold nameStep at hst
          cases h1 : decide (takesBy ps f.names[i].name < 0)
          · obtain ⟨k, hk, hkl, hkk⟩ := takesBy_nat (ps := ps) (s := f.names[i].name) (by simpa using h1)
            rw [hk] at hst ⊢
            have hs0 : k < S.slots.length := by omega
            have hk0 : ¬ ((k : Int) < 0) := by omega
            simp only [hk0, if_false, Int.toNat_natCast, List.getD_eq_getElem?_getD, List.getElem?_eq_getElem hkl, List.getElem?_eq_getElem hs0, Option.getD_some] at hst
            have hkn : decide ((k : Int) < 0) = false := by simpa using hk0
            simp [hkl, hkn]
            cases h2 : ps[k].kind == 4
            · rw [h2] at hst
              simp only [Bool.false_eq_true, if_false] at hst
              have hnm : ps[k].named = true := by
                rcases hkk with h3 | ⟨_, h3⟩
                · exact h3
                · simp [h3] at h2
              have hnk : ∀ (s x : Int), (s ≠ 1 ∧ s ≠ 3) → idxOf (fun p => p.kind == s) ps = x → ¬ k = natOr x ps.length := fun s x hs hx e => by
                unfold natOr at e
                split at e
                · rename_i h0
                  rw [← hx] at h0
                  obtain ⟨n, hn, hnl, hq, _⟩ := idxOf_nat h0
                  have : k = n := by rw [← hx, hn] at e; simpa using e
                  subst this
                  have h3 : ps[k].kind = s := by simpa using hq
                  simp [Param.named, h3, hs.1, hs.2] at hnm
                · omega
              have e1 := hnk 2 r (by decide) hr
              have e2 := hnk 4 m (by decide) hm
              simp [hs0]
              cases h5 : S.slots[k].given
              · rw [h5] at hst
                simp only [Bool.false_eq_true, if_false] at hst
                simp [h, hs0, e1, e2]
                exact ⟨i + 1, ⟨wrapN i (by omega), by rw [hst], by rw [hst]; simp only [List.map_set]; rfl, by rw [hst]⟩, by omega, by omega⟩
              · rw [h5] at hst
                simp only [if_true] at hst
                simp
                exact ⟨⟨by omega, by omega⟩, i + 1, ⟨wrapN i (by omega), by rw [hst]; simp⟩, by omega, by omega⟩
            · rw [h2] at hst
              simp only [if_true] at hst
              have hkm : m = k := by
                rcases hkk with h3 | ⟨h3, _⟩
                · simp [Param.named, show ps[k].kind = 4 by simpa using h2] at h3
                · rw [← hm, h3]
              subst hkm
              simp
              refine dr mixed ?_
              simp [h, hkl, hs0]
              exact ⟨⟨by omega, by omega⟩, by kernel_rfl, i + 1, ⟨wrapN i (by omega), by rw [hst], by rw [hst], by rw [hst]; simp⟩, by omega, by omega⟩
          · have hk0 : takesBy ps f.names[i].name < 0 := by simpa using h1
            rw [if_pos hk0] at hst
            simp [h1]
            exact ⟨⟨by omega, by omega⟩, i + 1, ⟨wrapN i (by omega), by rw [hst]; simp⟩, by omega, by omega⟩
        · have : i = f.names.length := by omega
          subst this
          simp
      · rintro i rfl
        refine ⟨_, (fzS 6 rfl).trans ((fzS 7 rfl).trans ((gcS 5 rfl rfl (by simp) (fun k s' r' e h => by cases e; change Blk.frz _ = _ at h; cases h)).trans ((gcS 5 rfl rfl rfl (fun k s' r' e h => by cases e; change Blk.frz _ = _ at h; cases h)).trans (gaS 5 rfl)))), ?_⟩
        simp
        simp [boundSlots, boundS, hc, hr, hm, hsl0, hrl, setC_list, setC_pairs]
end Go.Proofs.K
/- The contracts of spec's accepts and what stands on it. -/
namespace Go.Proofs.K
open Go Go.Proofs Go.IntWalk
theorem c_spec_allows (ps : List Param) (n : Int) (s : ByteArray) (hp : SFit ps) : Con Tryz.prog 153 [vsig ps, vi n, vs s] (fun r ms => r = vb (allowsN ps n s) ∧ ms = []) := by
  refine con_intro fi153 (by simp) ?_
  dsimp only [bodyOf, Tryz.f153, Option.getD]; simp
  refine call_d (c_spec_takesName ps s hp) rfl (by simp) ?_
  unfold allowsN
  cases h0 : decide (0 ≤ takesBy ps s)
  · simp [h0]
  · obtain ⟨k, hk, hkl, _⟩ := takesBy_nat (ps := ps) (s := s) (by simpa using h0)
    rw [hk]
    simp [hkl]
    cases h1 : ps[k].kind == 4
    · simp [hkl]
      refine call_d (c_spec_open ps[k] k n) rfl (by simp) ?_
      simp [Param.opn]
    · simp

theorem c_spec_missing (ps : List Param) (sl : List Slot) (hp : SFit ps) (hs : sl.length = ps.length) : Con Tryz.prog 142 [vsig ps, vbind sl] (fun r ms => r = .one (.ms 0) ∧ ms = [(2, (missL sl 0 ps).map Problem.c)]) := by
  have hpl := hp.len
  refine con_intro fi142 (by simp) ?_
  dsimp only [bodyOf, Tryz.f142, Option.getD]; simp
  refine lp [2, 3, 5, 6] (fun q : Nat × List Problem => ⟨[(2, .one (.ptr 0 0)), (3, .one (.ptr 1 0)), (5, .one (.ms 2)), (6, vi q.1)], [(0, .box [.c (.lst (ps.map Param.c))]), (1, .box [.c (.lst (sl.map Slot.c))]), (2, .arr 2 (q.2.map Problem.c))], 3⟩)
    (fun q => q.1 ≤ ps.length ∧ q.2.length ≤ q.1 ∧ missL sl 0 ps = q.2 ++ missL sl q.1 (ps.drop q.1)) (fun q => ps.length - q.1) (0, []) (by simp) (by simp) ?_
  rintro ⟨k, out⟩ ⟨hk, hol, he⟩
  simp only at hk hol he
  by_cases h : k < ps.length
  · have hks : k < sl.length := by omega
    rw [missL_step sl ps k h, missStep] at he
    simp only [List.getD_eq_getElem?_getD, List.getElem?_eq_getElem hks, Option.getD_some] at he
    simp [h]
    refine call_d (c_spec_isSingle ps[k]) rfl (by simp) ?_
    cases h1 : ps[k].single
    · rw [h1] at he
      simp
      exact ⟨k + 1, out, ⟨wrapN k (by omega), rfl⟩, ⟨by omega, by omega, by simpa using he⟩, by omega⟩
    · rw [h1] at he
      cases h2 : ps[k].hasDefault
      · rw [h2] at he
        simp [hks]
        cases h3 : sl[k].given
        · rw [h3] at he
          simp
          exact ⟨⟨by omega, by omega⟩, k + 1, out ++ [⟨3, ps[k].name⟩], ⟨wrapN k (by omega), by simp⟩, ⟨by omega, by simp; omega, by simpa using he⟩, by omega⟩
        · rw [h3] at he
          simp
          exact ⟨k + 1, out, ⟨wrapN k (by omega), rfl⟩, ⟨by omega, by omega, by simpa using he⟩, by omega⟩
      · rw [h2] at he
        simp
        exact ⟨k + 1, out, ⟨wrapN k (by omega), rfl⟩, ⟨by omega, by omega, by simpa using he⟩, by omega⟩
  · simp [h]
    rw [he, List.drop_of_length_le (by omega)]
    simp [missL]
end Go.Proofs.K
/- The contract of spec's problems. -/
namespace Go.Proofs.K
open Go Go.Proofs Go.IntWalk
theorem c_spec_problems (ps : List Param) (f : Flat) (hp : SFit ps) (hf : FFit f) (hpre : ∀ i (h : i < ps.length), i < cnt Param.placed ps → ps[i].placed = true) :
    Con Tryz.prog 98 [vsig ps, vflat f] (fun r ms => r = .one (.ms 0) ∧ ms = [(2, (problemsS ps f).map Problem.c)]) := by
  have hpl := hp.len
  have hfn := hf.names
  refine con_intro fi98 (by simp) ?_
  dsimp only [bodyOf, Tryz.f98, Option.getD]; simp
  refine call_c (c_spec_bound ps f hp hf hpre) rfl ?_
  simp
  refine call_d (c_spec_missing ps (boundSlots ps f) hp (boundSlots_len ps f)) rfl (by simp) ?_
  simp
  have l1 := missL_len (boundSlots ps f) ps 0
  have l2 := boundS_bad ps f
  exact ⟨⟨by omega, by omega⟩, by simp [problemsS]⟩

theorem c_spec_accepts (ps : List Param) (f : Flat) (hp : SFit ps) (hf : FFit f) (hpre : ∀ i (h : i < ps.length), i < cnt Param.placed ps → ps[i].placed = true) :
    Con Tryz.prog 51 [vsig ps, vflat f] (fun r ms => r = vb (acceptsS ps f) ∧ ms = []) := by
  refine con_intro fi51 (by simp) ?_
  dsimp only [bodyOf, Tryz.f51, Option.getD]; simp
  refine call_d (c_spec_problems ps f hp hf hpre) rfl (by simp) ?_
  simp
  cases h : problemsS ps f
  · simp [acceptsS, h]
  · simp [acceptsS, h]
    omega
end Go.Proofs.K
/- The contracts of spec's search for the first refused shape. -/
namespace Go.Proofs.K
open Go Go.Proofs Go.IntWalk

def letters : ByteArray := ⟨#[97, 98, 99, 100, 101, 102, 103, 104, 105, 106, 107, 108, 109, 110, 111, 112, 113, 114, 115, 116, 117, 118, 119, 120, 121, 122]⟩
def nextN (s : ByteArray) : ByteArray := if s.size < 6 then s ++ ⟨#[97]⟩ else s.extract 0 5 ++ letters.extract (bt s 5 - 96).toNat (bt s 5 - 95).toNat
theorem nextN_all : ((List.range 30).all fun k => decide (nextN (nm k) = nm (k + 1)) && (decide ((nm k).size < 6) || (decide ((nm k).size = 6) && (decide (97 ≤ bt (nm k) 5) && decide (bt (nm k) 5 ≤ 121))))) = true := by kernel_rfl

theorem c_spec_nextName (s : ByteArray) (hs : s.size < 6 ∨ s.size = 6 ∧ 97 ≤ bt s 5 ∧ bt s 5 ≤ 121) : Con Tryz.prog 152 [vs s] (fun r ms => r = vs (nextN s) ∧ ms = []) := by
  refine con_intro fi152 (by simp) ?_
  dsimp only [bodyOf, Tryz.f152, Option.getD]
  unfold nextN
  by_cases h : s.size < 6
  · have h1 : (s.size : Int) < 6 := by omega
    simp [h, h1]
    have : (ByteArray.mk #[97]).size = 1 := rfl
    omega
  · obtain ⟨h2, h3, h4⟩ := hs.resolve_left h
    have h1 : ¬ (s.size : Int) < 6 := by omega
    have hne : s ≠ ⟨#[]⟩ := fun e => by rw [e] at h2; cases h2
    have he : bt s 5 ≠ 122 := by omega
    simp [h2]
    refine lp [0] (fun _ : Unit => ⟨[(0, vs s)], [], 0⟩) (fun _ => True) (fun _ => 0) () (by simp) trivial ?_
    intro _ _
    have w5 : IntKind.i64.wrap 5 = 5 := rfl
    have he' : (bt s 5 == 122) = false := by simp [he]
    have e1 : IntKind.u8.wrap (bt s 5 - 97) = bt s 5 - 97 := u8_in _ (by omega)
    have e2 : IntKind.i64.wrap (bt s 5 - 97) = bt s 5 - 97 := i64_in _ (by omega)
    have e3 : IntKind.i64.wrap (bt s 5 - 97 + 1) = bt s 5 - 96 := by rw [i64_in _ (by omega)]; omega
    have e4 : IntKind.i64.wrap (bt s 5 - 96 + 1) = bt s 5 - 95 := by rw [i64_in _ (by omega)]; omega
    simp [hne, h2, w5, he', e1, e2, e3]
    refine dr mixed ?_
    simp [hne, h2, w5, he', e1, e2, e3, e4]
    refine ⟨⟨by omega, ?_⟩, ?_, by kernel_rfl, ?_⟩
    · show bt s 5 - 95 ≤ ((26 : Nat) : Int); omega
    · show 5 + (min (bt s 5 - 95).toNat 26 - (bt s 5 - 96).toNat) ≤ 9223372036854775807; omega
    · rfl

theorem c_spec_nextNm (k : Nat) (hk : k < 30) : Con Tryz.prog 152 [vs (nm k)] (fun r ms => r = vs (nm (k + 1)) ∧ ms = []) := by
  have h := nextN_all
  rw [List.all_eq_true] at h
  have := h k (by simpa using hk)
  simp only [Bool.and_eq_true, Bool.or_eq_true, decide_eq_true_eq] at this
  rw [← this.1]
  exact c_spec_nextName (nm k) this.2

@[reducible] def vsh (x : Shape) : PV := .agg [.c (.int .i64 x.count), .c (.lst (x.names.map tx))]
/-- A shape and whether there is one: as a result of a function. -/
def shR : Option Shape → PV × List (Nat × List (List C))
  | none => (.tup [.agg [.c (.int .i64 0), .nil], vb false], [])
  | some x => (.tup [.agg [.c (.int .i64 x.count), .ms 0], vb true], [(1, x.names.map tx)])
@[simp] theorem shR_none : shR none = (.tup [.agg [.c (.int .i64 0), .nil], vb false], []) := rfl
@[simp] theorem shR_some (x : Shape) : shR (some x) = (.tup [.agg [.c (.int .i64 x.count), .ms 0], vb true], [(1, x.names.map tx)]) := rfl

theorem takeP (a : List Param) (k : Nat) (h : k < a.length) : namesP (a.take (k + 1)) = namesP (a.take k) ++ [a[k].name] := by
  unfold namesP
  rw [List.take_add_one, List.getElem?_eq_getElem h, List.map_append]; rfl
theorem namesP_len (a : List Param) : (namesP a).length = a.length := by simp [namesP]

theorem find_none' {q : ByteArray → Bool} {l : List ByteArray} {k : Nat} (hk : k ≤ l.length) (h : ∀ j (hj : j < l.length), j < k → q l[j] = false) : l.find? q = (l.drop k).find? q := by
  induction k with
  | zero => rfl
  | succ k ih =>
    have hk' : k < l.length := by omega
    rw [ih (by omega) (fun j hj hjk => h j hj (by omega)), List.drop_eq_getElem_cons hk', List.find?_cons, h k hk' (by omega)]

theorem c_spec_firstName (a b : List Param) (n : Nat) (ha : sigOk a = true) (hb : sigOk b = true) (fa : SFit a) (fb : SFit b) : Con Tryz.prog 109 [vsig a, vsig b, vi n] (fun r ms => r = vs (firstNameS a b n) ∧ ms = []) := by
  have la := (sigOk_at ha).2
  have lb := (sigOk_at hb).2
  refine con_intro fi109 (by simp) ?_
  dsimp only [bodyOf, Tryz.f109, Option.getD]; simp
  refine lp [2, 3, 4, 7, 8] (fun k : Nat => ⟨[(2, vi n), (3, .one (.ptr 0 0)), (4, .one (.ptr 1 0)), (7, .one (.ms 2)), (8, vi k)], [(0, .box [.c (.lst (a.map Param.c))]), (1, .box [.c (.lst (b.map Param.c))]), (2, .arr 1 ((namesP (a.take k)).map tx))], 3⟩)
    (fun k => k ≤ a.length) (fun k => a.length - k) 0 (by simp [namesP]) (by simp) ?_
  intro k hk
  by_cases h : k < a.length
  · simp [h]
    refine ⟨⟨by rw [namesP_len]; simp; omega, by rw [namesP_len]; simp; omega⟩, k + 1, ⟨wrapN k (by omega), by rw [takeP a k h]; simp⟩, by omega, by omega⟩
  · have : k = a.length := by omega
    subst this
    simp
    refine lp [2, 3, 4, 7, 9] (fun k : Nat => ⟨[(2, vi n), (3, .one (.ptr 0 0)), (4, .one (.ptr 1 0)), (7, .one (.ms 2)), (9, vi k)], [(0, .box [.c (.lst (a.map Param.c))]), (1, .box [.c (.lst (b.map Param.c))]), (2, .arr 1 ((namesP a ++ namesP (b.take k)).map tx))], 3⟩)
      (fun k => k ≤ b.length) (fun k => b.length - k) 0 (by simp [namesP]) (by simp) ?_
    intro k hk
    by_cases h : k < b.length
    · simp [h]
      refine ⟨⟨by rw [namesP_len, namesP_len]; simp; omega, by rw [namesP_len, namesP_len]; simp; omega⟩, k + 1, ⟨wrapN k (by omega), by rw [takeP b k h]; simp⟩, by omega, by omega⟩
    · have : k = b.length := by omega
      subst this
      simp
      have hlen : (namesP a ++ namesP b).length ≤ 16 := by rw [List.length_append, namesP_len, namesP_len]; omega
      obtain ⟨f1, f2, f3⟩ := fresh_spec (l := namesP a ++ namesP b) (by omega)
      unfold firstNameS listS
      generalize hl : namesP a ++ namesP b = l at *
      refine lp [2, 3, 4, 7, 10] (fun k : Nat => ⟨[(2, vi n), (3, .one (.ptr 0 0)), (4, .one (.ptr 1 0)), (7, .one (.ms 2)), (10, vs (nm k))], [(0, .box [.c (.lst (a.map Param.c))]), (1, .box [.c (.lst (b.map Param.c))]), (2, .arr 1 (l.map tx))], 3⟩)
        (fun k => k ≤ fresh l) (fun k => fresh l - k) 0 (by simp [nm, nmL, ← hl]) (by simp) ?_
      intro k hk
      simp
      refine call_d (c_spec_hasText l (nm k) (by omega)) rfl (by simp) ?_
      by_cases h : k < fresh l
      · have hin : (l.any fun x => decide (x = nm k)) = true := hasT_iff.2 (f3 k h)
        simp only [hin]
        simp
        refine call_d (c_spec_nextNm k (by omega)) rfl (by simp) ?_
        simp
        exact ⟨k + 1, rfl, by omega, by omega⟩
      · have : k = fresh l := by omega
        subst this
        have hin : (l.any fun x => decide (x = nm (fresh l))) = false := hasT_not.2 f2
        simp only [hin]
        simp
        refine ⟨⟨by omega, by omega⟩, ?_⟩
        refine call_d (c_spec_sortedTexts (l ++ [nm (fresh l)]) (by simp; omega)) (by simp) (by simp) ?_
        simp
        refine call_d (c_spec_needs a n fa) rfl (by simp) ?_
        simp
        have hneed : sortT (needL n 0 a) = needT a n := rfl
        simp only [hneed]
        have hnl := needT_len (a := a) (n := n)
        have hll := sortT_len (l ++ [nm (fresh l)])
        simp only [List.length_append, List.length_singleton] at hll
        generalize hL : sortT (l ++ [nm (fresh l)]) = L at *
        refine lp [2, 3, 4, 7, 11, 12] (fun k : Nat => ⟨[(2, vi n), (3, .one (.ptr 0 0)), (4, .one (.ptr 1 0)), (7, .one (.ms 2)), (11, .one (.ms 3)), (12, vi k)], [(0, .box [.c (.lst (a.map Param.c))]), (1, .box [.c (.lst (b.map Param.c))]), (2, .arr 1 (L.map tx)), (3, .arr 1 ((needT a n).map tx))], 4⟩)
          (fun k => k ≤ L.length ∧ ∀ j (hj : j < L.length), j < k → candS a b n L[j] = false) (fun k => L.length - k) 0 (by simp) (by simp) ?_
        intro k ⟨hk, hno⟩
        by_cases h : k < L.length
        · have next : candS a b n L[k] = false → ∃ x' : Nat, IntKind.i64.wrap (↑k + 1) = ↑x' ∧ (x' ≤ L.length ∧ ∀ j (hj : j < L.length), j < x' → candS a b n L[j] = false) ∧ L.length - x' < L.length - k := fun hc => ⟨k + 1, wrapN k (by omega), ⟨by omega, fun j hj hjk => by
            by_cases e : j = k
            · subst e; exact hc
            · exact hno j hj (by omega)⟩, by omega⟩
          have found : candS a b n L[k] = true → (L.find? (candS a b n)).getD ⟨#[]⟩ = L[k] := fun hc => by
            rw [find_none' hk hno, List.drop_eq_getElem_cons h, List.find?_cons, hc]; rfl
          simp [h]
          refine dr mixed ?_
          simp [h]
          refine DC.of (c_spec_allows a n L[k] fa) rfl (by simp) ?_
          cases h1 : allowsN a n L[k]
          · simp
            refine ⟨by kernel_rfl, ?_⟩
            simpa using next (by simp [candS, h1])
          · simp [h]
            refine DC.of (c_spec_hasText (needT a n) L[k] (by omega)) rfl (by simp) ?_
            have hT : ((needT a n).any fun x => decide (x = L[k])) = hasT (needT a n) L[k] := rfl
            simp only [hT]
            cases h2 : hasT (needT a n) L[k]
            · simp [h]
              refine DC.of (c_spec_allows b n L[k] fb) rfl (by simp) ?_
              cases h3 : allowsN b n L[k]
              · simp [h]
                refine ⟨by kernel_rfl, ?_⟩
                exact (found (by simp [candS, h1, h2, h3])).symm
              · simp
                refine ⟨by kernel_rfl, ?_⟩
                simpa using next (by simp [candS, h3])
            · simp
              refine ⟨by kernel_rfl, ?_⟩
              simpa using next (by simp [candS, h2])
        · have : k = L.length := by omega
          subst this
          simp
          rw [find_none' (Nat.le_refl _) hno]
          simp
end Go.Proofs.K
/- The contracts of spec's FirstRefused, Fits, SameShapes. -/
namespace Go.Proofs.K
open Go Go.Proofs Go.IntWalk

theorem c_spec_refusedAt (a b : List Param) (n : Nat) (hn : n ≤ 8) (ha : sigOk a = true) (hb : sigOk b = true) (fa : SFit a) (fb : SFit b) :
    Con Tryz.prog 59 [vsig a, vsig b, vi n] (fun r ms => r = (shR (refusedAtS a b n)).1 ∧ ms = (shR (refusedAtS a b n)).2) := by
  have la := (sigOk_at ha).2
  have lb := (sigOk_at hb).2
  have hnl := needT_len (a := a) (n := n)
  have hneed : sortT (needL n 0 a) = needT a n := rfl
  refine con_intro fi59 (by simp) ?_
  dsimp only [bodyOf, Tryz.f59, Option.getD]; simp
  refine call_d (c_spec_takesCount a n fa (by omega)) rfl (by simp) ?_
  unfold refusedAtS
  cases h1 : takesN a n
  · simp
  · simp
    refine call_d (c_spec_needs a n fa) rfl (by simp) ?_
    simp
    refine dr mixed ?_
    simp
    simp only [hneed]
    refine DC.of (c_spec_flatOf n (needT a n) (by omega) (by omega)) rfl (by simp) ?_
    simp
    refine DC.of (c_spec_accepts b (flatOfS ⟨n, needT a n⟩) fb ⟨by simp [flatOfS]; omega, by simp [flatOfS]; omega⟩ (placed_first hb)) (by simp [flatOfS]) (by simp) ?_
    cases h2 : acceptsS b (flatOfS ⟨n, needT a n⟩)
    · simp
      refine (by kernel_rfl : _ = true)
    · simp
      refine ⟨by kernel_rfl, ?_⟩
      by_cases h3 : 8 ≤ (needT a n).length
      · have h3' : (8 : Int) ≤ (needT a n).length := by omega
        simp [h3, h3']
      · have h3' : ¬ (8 : Int) ≤ (needT a n).length := by omega
        simp [h3, h3']
        refine call_d (c_spec_firstName a b n ha hb fa fb) rfl (by simp) ?_
        by_cases h4 : firstNameS a b n = ⟨#[]⟩
        · simp [h4]
        · simp [h4]
          refine ⟨⟨by omega, by omega⟩, ?_⟩
          refine call_d (c_spec_sortedTexts (needT a n ++ [firstNameS a b n]) (by simp; omega)) (by simp) (by simp) ?_
          simp

def refusedIn (a b : List Param) (k : Nat) : Option Shape := (List.range k).findSome? (refusedAtS a b)
theorem refusedIn_step (a b : List Param) (k : Nat) (h : refusedIn a b k = none) : refusedIn a b (k + 1) = refusedAtS a b k := by
  unfold refusedIn at *
  rw [List.range_succ, List.findSome?_append, h]
  simp
theorem refusedIn_mono (a b : List Param) (k j : Nat) (x : Shape) (hk : k ≤ j) (h : refusedIn a b k = some x) : refusedIn a b j = some x := by
  induction j with
  | zero => obtain rfl : k = 0 := by omega
            exact h
  | succ j ih =>
    by_cases e : k = j + 1
    · subst e; exact h
    · have := ih (by omega)
      unfold refusedIn at *
      rw [List.range_succ, List.findSome?_append, this]; rfl
theorem firstRefusedS_at {a b : List Param} {k : Nat} {x : Shape} (hs : (sigOk a && sigOk b) = true) (hk : k < 9) (h : refusedIn a b k = none) (hx : refusedAtS a b k = some x) : firstRefusedS a b = some x := by
  unfold firstRefusedS
  rw [if_pos hs]
  exact refusedIn_mono a b (k + 1) 9 x (by omega) (by rw [refusedIn_step a b k h, hx])

theorem c_spec_FirstRefused (a b : List Param) (fa : SFit a) (fb : SFit b) :
    Con Tryz.prog 27 [vsig a, vsig b] (fun r ms => r = (shR (firstRefusedS a b)).1 ∧ ms = (shR (firstRefusedS a b)).2) := by
  refine con_intro fi27 (by simp) ?_
  dsimp only [bodyOf, Tryz.f27, Option.getD]; simp
  refine call_d (c_spec_twoSignatures a b fa fb) rfl (by simp) ?_
  cases hs : sigOk a && sigOk b
  · simp [firstRefusedS, hs]
  · have hs' := hs
    rw [Bool.and_eq_true] at hs'
    simp
    refine lp [2, 3, 4, 6] (fun k : Nat => ⟨[(2, .one (.ptr 0 0)), (3, .one (.ptr 1 0)), (4, .one (.ptr 2 0)), (6, vi k)], [(0, .box [.c (.lst (a.map Param.c))]), (1, .box [.c (.lst (b.map Param.c))]), (2, .box [.c (.int .i64 0), .nil])], 3⟩)
      (fun k => k ≤ 9 ∧ refusedIn a b k = none) (fun k => 9 - k) 0 (by simp) (by simp [refusedIn]) ?_
    intro k ⟨hk, hno⟩
    by_cases h : k ≤ 8
    · have h' : (k : Int) ≤ 8 := by omega
      simp [h']
      refine call_d (c_spec_refusedAt a b k h hs'.1 hs'.2 fa fb) rfl ?_ ?_
      · cases refusedAtS a b k <;> simp
      · cases hx : refusedAtS a b k with
        | none =>
          simp
          exact ⟨k + 1, wrapN k (by omega), ⟨by omega, by rw [refusedIn_step a b k hno, hx]⟩, by omega⟩
        | some x =>
          simp
          rw [firstRefusedS_at hs (by omega) hno hx]
          simp
    · have h' : ¬ (k : Int) ≤ 8 := by omega
      simp [h']
      have : k = 9 := by omega
      subst this
      unfold firstRefusedS
      rw [if_pos hs]
      unfold refusedIn at hno
      rw [hno]; simp

theorem c_spec_fits (a b : List Param) (fa : SFit a) (fb : SFit b) : Con Tryz.prog 55 [vsig a, vsig b] (fun r ms => r = vb (firstRefusedS a b).isNone ∧ ms = []) := by
  refine con_intro fi55 (by simp) ?_
  dsimp only [bodyOf, Tryz.f55, Option.getD]; simp
  refine call_d (c_spec_FirstRefused a b fa fb) rfl ?_ ?_
  · cases firstRefusedS a b <;> simp
  · cases firstRefusedS a b <;> simp

theorem c_spec_Fits (a b : List Param) (fa : SFit a) (fb : SFit b) : Con Tryz.prog 20 [vsig a, vsig b] (fun r ms => r = vb (fitsS a b) ∧ ms = []) := by
  refine con_intro fi20 (by simp) ?_
  dsimp only [bodyOf, Tryz.f20, Option.getD]; simp
  refine call_d (c_spec_twoSignatures a b fa fb) rfl (by simp) ?_
  unfold fitsS
  cases hs : sigOk a && sigOk b
  · simp
  · simp
    refine call_d (c_spec_fits a b fa fb) rfl (by simp) ?_
    simp

theorem c_spec_SameShapes (a b : List Param) (fa : SFit a) (fb : SFit b) : Con Tryz.prog 23 [vsig a, vsig b] (fun r ms => r = vb (fitsS a b && fitsS b a) ∧ ms = []) := by
  refine con_intro fi23 (by simp) ?_
  dsimp only [bodyOf, Tryz.f23, Option.getD]; simp
  refine call_d (c_spec_twoSignatures a b fa fb) rfl (by simp) ?_
  have hc : (sigOk b && sigOk a) = (sigOk a && sigOk b) := Bool.and_comm _ _
  unfold fitsS
  rw [hc]
  cases hs : sigOk a && sigOk b
  · simp
  · simp
    refine call_d (c_spec_fits a b fa fb) rfl (by simp) ?_
    cases h1 : (firstRefusedS a b).isNone
    · simp
    · simp
      refine call_d (c_spec_fits b a fb fa) rfl (by simp) ?_
      simp
end Go.Proofs.K
