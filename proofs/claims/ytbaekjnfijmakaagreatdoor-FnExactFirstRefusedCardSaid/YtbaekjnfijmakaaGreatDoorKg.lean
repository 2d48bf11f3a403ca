/- Contracts of the program. -/
import Derived.Test.YtbaekjnfijmakaaGreatDoorKf
import Derived.Test.YtbaekjnfijmakaaGreatDoorKd
import Derived.Test.YtbaekjnfijmakaaGreatDoorKe
set_option linter.unnecessarySimpa false
set_option linter.unusedSimpArgs false
set_option linter.unusedVariables false
set_option maxRecDepth 20000
/- The contracts of the program's small functions. -/
namespace Go.Proofs.K
open Go Go.Proofs Go.IntWalk

theorem c_impl_isName (s : ByteArray) (hs : Fit s.size) : Con Tryz.prog 61 [vs s] (fun r ms => r = vb (nameOk s) ∧ ms = []) := by
  refine con_intro fi61 (by simp) ?_
  dsimp only [bodyOf, Tryz.f61, Option.getD]; simp
  refine lp [0, 3] (fun k : Nat => ⟨[(0, vs s), (3, vi k)], [], 0⟩) (fun k => k ≤ s.size ∧ ∀ j, j < k → lowAt s j = true) (fun k => s.size - k) 0 (by simp) (by simp) ?_
  intro k ⟨hk, hno⟩
  by_cases h : k < s.size
  · by_cases h1 : bt s k < 97
    · simp [h, h1]
      exact nameOk_no h (by simp [lowAt]; omega)
    · simp [h, h1]
      refine br_i (fun h2 => ?_) (fun h2 => ?_)
      · simp; simp at h2
        exact nameOk_no h (by simp [lowAt]; omega)
      · simp; simp at h2
        exact ⟨k + 1, by rw [wrapN k (by omega)], ⟨by omega, fun j hj => by
        rcases Nat.lt_or_ge j k with h3 | h3
        · exact hno j h3
        · have : j = k := by omega
          subst this; simp [lowAt]; omega⟩, by omega⟩
  · simp [h]
    refine call_d (c_impl_in _ _ _) rfl (by simp) ?_
    simp
    exact (nameOk_yes fun j hj => hno j (by omega)).symm

theorem c_impl_find (ps : List Param) (s : ByteArray) (hp : Fit ps.length) : Con Tryz.prog 66 [vps ps, vs s] (fun r ms => r = vi (idxOf (fun p => decide (p.name = s)) ps) ∧ ms = []) := by
  refine con_intro fi66 (by simp) ?_
  dsimp only [bodyOf, Tryz.f66, Option.getD]; simp
  refine scall_inline fi111 (by simp) ?_
  dsimp only [bodyOf, Tryz.f111, Option.getD]; simp
  refine lp [0, 1, 7, 8] (fun k : Nat => ⟨[(0, vps ps), (1, .one (.fn 112 [(0, 0)])), (7, vi ps.length), (8, vi k)], [(0, .box [.c (.str s)])], 1⟩)
    (fun k => k ≤ ps.length ∧ ∀ j (h : j < ps.length), j < k → decide (ps[j].name = s) = false) (fun k => ps.length - k) 0 (by simp) (by simp) ?_
  intro k ⟨hk, hno⟩
  by_cases h : k < ps.length
  · simp [h]
    refine scall_inline fi112 (by simp) ?_
    dsimp only [bodyOf, Tryz.f112, Option.getD]; simp
    cases h1 : decide (ps[k].name = s)
    · simp
      exact ⟨k + 1, wrapN k (by omega), ⟨by omega, fun j hj hjk => by
        by_cases e : j = k
        · subst e; simpa using h1
        · simpa using hno j hj (by omega)⟩, by omega⟩
    · simp
      exact (idxOf_hit h h1 hno).symm
  · simp [h]
    exact (idxOf_none fun j hj => hno j hj (by omega)).symm

/-- A search with a closure that holds one number. -/
theorem c_impl_has (ps : List Param) (n : Int) (hp : Fit ps.length) : Con Tryz.prog 115 [vsig ps, vi n] (fun r ms => r = vb (decide (0 ≤ idxOf (fun p => p.kind == n) ps)) ∧ ms = []) := by
  refine con_intro fi115 (by simp) ?_
  dsimp only [bodyOf, Tryz.f115, Option.getD]; simp
  refine scall_inline fi156 (by simp) ?_
  dsimp only [bodyOf, Tryz.f156, Option.getD]; simp
  refine scall_inline fi111 (by simp) ?_
  dsimp only [bodyOf, Tryz.f111, Option.getD]; simp
  refine lp [0, 1, 7, 8] (fun k : Nat => ⟨[(0, vps ps), (1, .one (.fn 157 [(1, 0)])), (7, vi ps.length), (8, vi k)], [(0, .box [.c (.lst (ps.map Param.c))]), (1, .box [.c (.int .i64 n)])], 2⟩)
    (fun k => k ≤ ps.length ∧ ∀ j (h : j < ps.length), j < k → (ps[j].kind == n) = false) (fun k => ps.length - k) 0 (by simp) (by simp) ?_
  intro k ⟨hk, hno⟩
  by_cases h : k < ps.length
  · simp [h]
    refine scall_inline fi157 (by simp) ?_
    dsimp only [bodyOf, Tryz.f157, Option.getD]; simp
    cases h1 : ps[k].kind == n
    · simp
      exact ⟨k + 1, wrapN k (by omega), ⟨by omega, fun j hj hjk => by
        by_cases e : j = k
        · subst e; simpa using h1
        · simpa using hno j hj (by omega)⟩, by omega⟩
    · simp
      rw [idxOf_hit h h1 hno]; omega
  · simp [h]
    rw [idxOf_none fun j hj => hno j hj (by omega)]; omega

theorem c_impl_takes (ps : List Param) (s : ByteArray) (hp : SFit ps) : Con Tryz.prog 136 [vsig ps, vs s] (fun r ms => r = vi (takesBy ps s) ∧ ms = []) := by
  have hpl := hp.len
  refine con_intro fi136 (by simp) ?_
  dsimp only [bodyOf, Tryz.f136, Option.getD]; simp
  refine call_d (c_impl_find ps s hp.len) rfl (by simp) ?_
  have hl := idxOf_nat (q := fun p => decide (p.name = s)) (l := ps)
  have hlow := idxOf_lt (q := fun p => decide (p.name = s)) (l := ps)
  unfold takesBy
  generalize idxOf (fun p => decide (p.name = s)) ps = m at *
  cases h0 : decide (0 ≤ m)
  · simp [h0]
    refine scall_inline fi111 (by simp) ?_
    dsimp only [bodyOf, Tryz.f111, Option.getD]; simp
    refine lp [0, 1, 7, 8] (fun k : Nat => ⟨[(0, vps ps), (1, .one (.fn 172 [])), (7, vi ps.length), (8, vi k)], [(0, .box [.c (.lst (ps.map Param.c))])], 1⟩)
      (fun k => k ≤ ps.length ∧ ∀ j (h : j < ps.length), j < k → (ps[j].kind == 4) = false) (fun k => ps.length - k) 0 (by simp) (by simp) ?_
    intro k ⟨hk, hno⟩
    by_cases h : k < ps.length
    · simp [h]
      refine scall_inline fi172 (by simp) ?_
      dsimp only [bodyOf, Tryz.f172, Option.getD]; simp
      cases h1 : ps[k].kind == 4
      · simp
        exact ⟨k + 1, wrapN k (by omega), ⟨by omega, fun j hj hjk => by
          by_cases e : j = k
          · subst e; simpa using h1
          · simpa using hno j hj (by omega)⟩, by omega⟩
      · simp [h0]
        exact (idxOf_hit h h1 hno).symm
    · simp [h, h0]
      exact (idxOf_none fun j hj => hno j hj (by omega)).symm
  · obtain ⟨n, rfl, hn, _⟩ := hl (by simpa using h0)
    simp [hn]
    refine call_d (c_impl_named ps[n]) rfl (by simp) ?_
    cases h1 : ps[n].named
    · simp
      refine scall_inline fi111 (by simp) ?_
      dsimp only [bodyOf, Tryz.f111, Option.getD]; simp
      refine lp [0, 1, 7, 8] (fun k : Nat => ⟨[(0, vps ps), (1, .one (.fn 172 [])), (7, vi ps.length), (8, vi k)], [(0, .box [.c (.lst (ps.map Param.c))])], 1⟩)
        (fun k => k ≤ ps.length ∧ ∀ j (h : j < ps.length), j < k → (ps[j].kind == 4) = false) (fun k => ps.length - k) 0 (by simp) (by simp) ?_
      intro k ⟨hk, hno⟩
      by_cases h : k < ps.length
      · simp [h]
        refine scall_inline fi172 (by simp) ?_
        dsimp only [bodyOf, Tryz.f172, Option.getD]; simp
        cases h2 : ps[k].kind == 4
        · simp
          exact ⟨k + 1, wrapN k (by omega), ⟨by omega, fun j hj hjk => by
            by_cases e : j = k
            · subst e; simpa using h2
            · simpa using hno j hj (by omega)⟩, by omega⟩
        · simp [h1]
          exact (idxOf_hit h h2 hno).symm
      · simp [h, h1]
        exact (idxOf_none fun j hj => hno j hj (by omega)).symm
    · simp [h1]
end Go.Proofs.K
/- The contract of the program's ValidSignature. -/
namespace Go.Proofs.K
open Go Go.Proofs Go.IntWalk

/-- What 'optional' holds ahead of round k. -/
def optIs (ps : List Param) (k : Nat) (o : Bool) : Prop := (k = 0 → o = false) ∧ ∀ j (hj : j < ps.length), j + 1 = k → ps[j].placed = true → o = ps[j].hasDefault

theorem good_ok {ps : List Param} {k : Nat} (hk : k < ps.length) (h : goodAt ps k ps[k] = true) : ps[k].ok = true := by
  unfold goodAt badAt at h
  simp only [Bool.and_eq_true, Bool.not_eq_true', Bool.or_eq_false_iff, Bool.not_eq_false'] at h
  exact h.1.1

theorem placed_prev {ps : List Param} {j : Nat} (hj : j + 1 < ps.length) (hg : goodAt ps j ps[j] = true) (hk : ¬ ps[j + 1].kind < ps[j].kind) (hp : ps[j + 1].placed = true) : ps[j].placed = true := by
  have := good_ok (by omega) hg
  simp only [Param.ok, inR, Bool.and_eq_true, decide_eq_true_eq] at this
  simp only [Param.placed, Bool.or_eq_true, beq_iff_eq] at hp ⊢
  omega

theorem opt_bad {ps : List Param} {k : Nat} {o : Bool} (hk : k < ps.length) (hi : optIs ps k o) (hg : ∀ j (hj : j < ps.length), j < k → goodAt ps j ps[j] = true) (ho : o = true) (hp : ps[k].placed = true) (hd : ps[k].hasDefault = false) : goodAt ps k ps[k] = false := by
  cases k with
  | zero => rw [hi.1 rfl] at ho; cases ho
  | succ j =>
    have hj : j < ps.length := by omega
    by_cases h : ps[j + 1].kind < ps[j].kind
    · simp [goodAt, badBy, hj, h]
    · have h1 := placed_prev hk (hg j hj (by omega)) h hp
      have h2 := hi.2 j hj rfl h1
      rw [ho] at h2
      simp [goodAt, badBy, hj, hp, hd, ← h2]

theorem opt_good {ps : List Param} {j : Nat} {o : Bool} (hk : j + 1 < ps.length) (hi : optIs ps (j + 1) o) (hg : ∀ i (hj : i < ps.length), i < j + 1 → goodAt ps i ps[i] = true) (h1 : ¬ ps[j + 1].kind < ps[j].kind)
    (h2 : (ps[j + 1].kind == ps[j].kind && !ps[j + 1].single) = false) (h3 : ps[j + 1].placed = true → o = true → ps[j + 1].hasDefault = true) : badBy ps[j] ps[j + 1] = false := by
  unfold badBy
  rw [h2]
  simp only [h1, decide_false, Bool.false_or]
  cases hp : ps[j + 1].placed
  · rfl
  · have h4 := placed_prev hk (hg j (by omega) (by omega)) h1 hp
    have h5 := hi.2 j (by omega) rfl h4
    cases hd : ps[j].hasDefault
    · rfl
    · rw [hd] at h5
      rw [h3 hp h5]; rfl

theorem opt_next {ps : List Param} {k : Nat} {o : Bool} (hk : k < ps.length) (h : ps[k].placed = true → o = ps[k].hasDefault) : optIs ps (k + 1) o :=
  ⟨fun e => by omega, fun j hj e hp => by obtain rfl : j = k := by omega
                                          exact h hp⟩

theorem ok_eq (p : Param) : p.ok = (nameOk p.name && (inR p.kind 0 4 && (inR p.dflt (-99) 99 && (!(!p.hasDefault && p.dflt != 0) && !(p.hasDefault && !p.single))))) := by
  unfold Param.ok
  cases nameOk p.name <;> cases inR p.kind 0 4 <;> cases inR p.dflt (-99) 99 <;> cases p.hasDefault <;> cases p.single <;> simp [bne]

theorem c_impl_ValidSignature (ps : List Param) (hp : SFit ps) : Con Tryz.prog 29 [vsig ps] (fun r ms => r = vb (sigOk ps) ∧ ms = []) := by
  have hpl := hp.len
  refine con_intro fi29 (by simp) ?_
  dsimp only [bodyOf, Tryz.f29, Option.getD]; simp
  refine lp [1, 3, 8, 9, 10] (fun q : Nat × Bool => ⟨[(1, .one (.ptr 0 0)), (3, vb q.2), (8, vps ps), (9, vi ps.length), (10, vi q.1)], [(0, .box [.c (.lst (ps.map Param.c))])], 1⟩)
    (fun q => q.1 ≤ ps.length ∧ (∀ j (h : j < ps.length), j < q.1 → goodAt ps j ps[j] = true) ∧ optIs ps q.1 q.2) (fun q => ps.length - q.1) (0, false) (by simp) ⟨by simp, fun j h hj => absurd hj (by omega), fun _ => rfl, fun j hj e => by simp at e⟩ ?_
  rintro ⟨k, o⟩ ⟨hk, hno, hopt⟩
  simp only at hk hno hopt
  by_cases h : k < ps.length
  · have bad : ps[k].ok = false → sigOk ps = false := fun hb => sigOk_no h (by simp [goodAt, badAt, hb])
    have next : ∀ o', goodAt ps k ps[k] = true → (ps[k].placed = true → o' = ps[k].hasDefault) → ∃ (a : Nat) (b : Bool), (o' = b ∧ IntKind.i64.wrap (↑k + 1) = ↑a) ∧ (a ≤ ps.length ∧ (∀ j (h : j < ps.length), j < a → goodAt ps j ps[j] = true) ∧ optIs ps a b) ∧ ps.length - a < ps.length - k :=
      fun o' hg ho => ⟨k + 1, o', ⟨rfl, wrapN k (by omega)⟩, ⟨by omega, fun j hj hjk => by
        by_cases e : j = k
        · subst e; exact hg
        · exact hno j hj (by omega), opt_next h ho⟩, by omega⟩
    simp [h]
    refine call_d (c_impl_isName ps[k].name (hp.names _ (by simp))) rfl (by simp) ?_
    cases h1 : nameOk ps[k].name
    · simp
      exact bad (by rw [ok_eq, h1]; rfl)
    · simp
      refine call_d (c_impl_in _ _ _) rfl (by simp) ?_
      cases h2 : inR ps[k].kind 0 4
      · simp
        exact bad (by rw [ok_eq, h1, h2]; rfl)
      · simp
        refine call_d (c_impl_isValue _) rfl (by simp) ?_
        cases h3 : inR ps[k].dflt (-99) 99
        · simp
          exact bad (by rw [ok_eq, h1, h2, h3]; rfl)
        · simp
          cases hd : ps[k].hasDefault
          · by_cases h5 : ps[k].dflt = 0
            · have hok : ps[k].ok = true := by rw [ok_eq, h1, h2, h3, hd]; simp [h5]
              simp [h5, hd]
              refine call_d (c_impl_placed ps[k]) (by simp [hd, h5]) (by simp) ?_
              cases h7 : ps[k].placed
              · simp
                cases k with
                | zero =>
                  simp [h]
                  refine dr mixed ?_
                  simp [h]
                  refine DC.of (c_impl_find [] ps[0].name (by simp)) (by simp [subRows]) (by simp) ?_
                  simp [idxOf]
                  refine ⟨by kernel_rfl, ?_⟩
                  simpa using next o (by simp [goodAt, badAt, hok, idxOf]) (fun e => by rw [h7] at e; cases e)
                | succ j =>
                  have hj1 : j < ps.length := by omega
                  have hj0 : (0 : Int) < (j : Int) + 1 := by omega
                  simp [h, hj0, hj1, i64_in (j : Int) (by omega)]
                  cases h10 : decide (ps[j + 1].kind < ps[j].kind)
                  · simp [h10]
                    cases h11 : ps[j + 1].kind == ps[j].kind
                    · simp [h]
                      have hbb : badBy ps[j] ps[j + 1] = false := opt_good h hopt hno (by simpa using h10) (by simp [h11]) (fun e => by rw [h7] at e; cases e)
                      refine dr mixed ?_
                      have hsub : subRows (ps.map Param.c) 0 ((j : Int) + 1) = (ps.take (j + 1)).map Param.c := by have := subRows_zero (ps.map Param.c) (j + 1); simpa using this
                      have hk2 : (j : Int) + 1 ≤ ps.length := by omega
                      have hk3 : (0 : Int) ≤ (j : Int) + 1 := by omega
                      have hk4 : ((j : Int) + 1).toNat = j + 1 := by omega
                      simp [h, hk, hj1, hk2, hk3, hk4, hsub]
                      refine DC.of (c_impl_find (ps.take (j + 1)) ps[j + 1].name (by simp; omega)) (by simp [hsub]) (by simp) ?_
                      generalize hi : idxOf (fun q => decide (q.name = ps[j + 1].name)) (ps.take (j + 1)) = fi
                      cases h9 : decide (0 ≤ fi)
                      · simp [h9]
                        refine ⟨by kernel_rfl, ?_⟩
                        have hbd : badAt ps (j + 1) ps[j + 1] = false := by simp [badAt, hok, hi, h9]
                        simpa using next o (by simp [goodAt, hbd, hj1, hbb]) (fun e => by rw [h7] at e; cases e)
                      · simp [h9]
                        refine ⟨by kernel_rfl, ?_⟩
                        exact sigOk_no h (by simp [goodAt, badAt, hok, hi, h9])
                    · simp [hd, h5]
                      refine call_d (c_impl_single ps[j + 1]) (by simp [hd, h5]) (by simp) ?_
                      cases h12 : ps[j + 1].single
                      · simp
                        exact sigOk_no h (by simp [goodAt, badBy, h10, h11, h12, hj1])
                      · simp [h]
                        have hbb : badBy ps[j] ps[j + 1] = false := opt_good h hopt hno (by simpa using h10) (by simp [h12]) (fun e => by rw [h7] at e; cases e)
                        refine dr mixed ?_
                        have hsub : subRows (ps.map Param.c) 0 ((j : Int) + 1) = (ps.take (j + 1)).map Param.c := by have := subRows_zero (ps.map Param.c) (j + 1); simpa using this
                        have hk2 : (j : Int) + 1 ≤ ps.length := by omega
                        have hk3 : (0 : Int) ≤ (j : Int) + 1 := by omega
                        have hk4 : ((j : Int) + 1).toNat = j + 1 := by omega
                        simp [h, hk, hj1, hk2, hk3, hk4, hsub]
                        refine DC.of (c_impl_find (ps.take (j + 1)) ps[j + 1].name (by simp; omega)) (by simp [hsub]) (by simp) ?_
                        generalize hi : idxOf (fun q => decide (q.name = ps[j + 1].name)) (ps.take (j + 1)) = fi
                        cases h9 : decide (0 ≤ fi)
                        · simp [h9]
                          refine ⟨by kernel_rfl, ?_⟩
                          have hbd : badAt ps (j + 1) ps[j + 1] = false := by simp [badAt, hok, hi, h9]
                          simpa using next o (by simp [goodAt, hbd, hj1, hbb]) (fun e => by rw [h7] at e; cases e)
                        · simp [h9]
                          refine ⟨by kernel_rfl, ?_⟩
                          exact sigOk_no h (by simp [goodAt, badAt, hok, hi, h9])
                  · simp [h10]
                    exact sigOk_no h (by simp [goodAt, badBy, h10, hj1])
              · cases o
                · simp
                  cases k with
                  | zero =>
                    simp [h]
                    refine dr mixed ?_
                    simp [h]
                    refine DC.of (c_impl_find [] ps[0].name (by simp)) (by simp [subRows]) (by simp) ?_
                    simp [idxOf]
                    refine ⟨by kernel_rfl, ?_⟩
                    simpa using next false (by simp [goodAt, badAt, hok, idxOf]) (fun _ => hd.symm)
                  | succ j =>
                    have hj1 : j < ps.length := by omega
                    have hj0 : (0 : Int) < (j : Int) + 1 := by omega
                    simp [h, hj0, hj1, i64_in (j : Int) (by omega)]
                    cases h10 : decide (ps[j + 1].kind < ps[j].kind)
                    · simp [h10]
                      cases h11 : ps[j + 1].kind == ps[j].kind
                      · simp [h]
                        have hbb : badBy ps[j] ps[j + 1] = false := opt_good h hopt hno (by simpa using h10) (by simp [h11]) (fun _ e => by cases e)
                        refine dr mixed ?_
                        have hsub : subRows (ps.map Param.c) 0 ((j : Int) + 1) = (ps.take (j + 1)).map Param.c := by have := subRows_zero (ps.map Param.c) (j + 1); simpa using this
                        have hk2 : (j : Int) + 1 ≤ ps.length := by omega
                        have hk3 : (0 : Int) ≤ (j : Int) + 1 := by omega
                        have hk4 : ((j : Int) + 1).toNat = j + 1 := by omega
                        simp [h, hk, hj1, hk2, hk3, hk4, hsub]
                        refine DC.of (c_impl_find (ps.take (j + 1)) ps[j + 1].name (by simp; omega)) (by simp [hsub]) (by simp) ?_
                        generalize hi : idxOf (fun q => decide (q.name = ps[j + 1].name)) (ps.take (j + 1)) = fi
                        cases h9 : decide (0 ≤ fi)
                        · simp [h9]
                          refine ⟨by kernel_rfl, ?_⟩
                          have hbd : badAt ps (j + 1) ps[j + 1] = false := by simp [badAt, hok, hi, h9]
                          simpa using next false (by simp [goodAt, hbd, hj1, hbb]) (fun _ => hd.symm)
                        · simp [h9]
                          refine ⟨by kernel_rfl, ?_⟩
                          exact sigOk_no h (by simp [goodAt, badAt, hok, hi, h9])
                      · simp [hd, h5]
                        refine call_d (c_impl_single ps[j + 1]) (by simp [hd, h5]) (by simp) ?_
                        cases h12 : ps[j + 1].single
                        · simp
                          exact sigOk_no h (by simp [goodAt, badBy, h10, h11, h12, hj1])
                        · simp [h]
                          have hbb : badBy ps[j] ps[j + 1] = false := opt_good h hopt hno (by simpa using h10) (by simp [h12]) (fun _ e => by cases e)
                          refine dr mixed ?_
                          have hsub : subRows (ps.map Param.c) 0 ((j : Int) + 1) = (ps.take (j + 1)).map Param.c := by have := subRows_zero (ps.map Param.c) (j + 1); simpa using this
                          have hk2 : (j : Int) + 1 ≤ ps.length := by omega
                          have hk3 : (0 : Int) ≤ (j : Int) + 1 := by omega
                          have hk4 : ((j : Int) + 1).toNat = j + 1 := by omega
                          simp [h, hk, hj1, hk2, hk3, hk4, hsub]
                          refine DC.of (c_impl_find (ps.take (j + 1)) ps[j + 1].name (by simp; omega)) (by simp [hsub]) (by simp) ?_
                          generalize hi : idxOf (fun q => decide (q.name = ps[j + 1].name)) (ps.take (j + 1)) = fi
                          cases h9 : decide (0 ≤ fi)
                          · simp [h9]
                            refine ⟨by kernel_rfl, ?_⟩
                            have hbd : badAt ps (j + 1) ps[j + 1] = false := by simp [badAt, hok, hi, h9]
                            simpa using next false (by simp [goodAt, hbd, hj1, hbb]) (fun _ => hd.symm)
                          · simp [h9]
                            refine ⟨by kernel_rfl, ?_⟩
                            exact sigOk_no h (by simp [goodAt, badAt, hok, hi, h9])
                    · simp [h10]
                      exact sigOk_no h (by simp [goodAt, badBy, h10, hj1])
                · simp
                  exact sigOk_no h (opt_bad h hopt hno rfl h7 hd)
            · have h5' : (ps[k].dflt != 0) = true := by simp [h5]
              simp [h5', hd]
              exact bad (by rw [ok_eq, h1, h2, h3, hd]; simp [h5])
          · simp [hd]
            refine call_d (c_impl_single ps[k]) (by simp [hd]) (by simp) ?_
            cases h6 : ps[k].single
            · simp
              exact bad (by rw [ok_eq, h1, h2, h3, hd, h6]; rfl)
            · have hok : ps[k].ok = true := by rw [ok_eq, h1, h2, h3, hd, h6]; rfl
              simp
              refine call_d (c_impl_placed ps[k]) (by simp [hd]) (by simp) ?_
              cases h7 : ps[k].placed
              · simp
                cases k with
                | zero =>
                  simp [h]
                  refine dr mixed ?_
                  simp [h]
                  refine DC.of (c_impl_find [] ps[0].name (by simp)) (by simp [subRows]) (by simp) ?_
                  simp [idxOf]
                  refine ⟨by kernel_rfl, ?_⟩
                  simpa using next o (by simp [goodAt, badAt, hok, idxOf]) (fun e => by rw [h7] at e; cases e)
                | succ j =>
                  have hj1 : j < ps.length := by omega
                  have hj0 : (0 : Int) < (j : Int) + 1 := by omega
                  simp [h, hj0, hj1, i64_in (j : Int) (by omega)]
                  cases h10 : decide (ps[j + 1].kind < ps[j].kind)
                  · simp [h10]
                    cases h11 : ps[j + 1].kind == ps[j].kind
                    · simp [h]
                      have hbb : badBy ps[j] ps[j + 1] = false := opt_good h hopt hno (by simpa using h10) (by simp [h11]) (fun e => by rw [h7] at e; cases e)
                      refine dr mixed ?_
                      have hsub : subRows (ps.map Param.c) 0 ((j : Int) + 1) = (ps.take (j + 1)).map Param.c := by have := subRows_zero (ps.map Param.c) (j + 1); simpa using this
                      have hk2 : (j : Int) + 1 ≤ ps.length := by omega
                      have hk3 : (0 : Int) ≤ (j : Int) + 1 := by omega
                      have hk4 : ((j : Int) + 1).toNat = j + 1 := by omega
                      simp [h, hk, hj1, hk2, hk3, hk4, hsub]
                      refine DC.of (c_impl_find (ps.take (j + 1)) ps[j + 1].name (by simp; omega)) (by simp [hsub]) (by simp) ?_
                      generalize hi : idxOf (fun q => decide (q.name = ps[j + 1].name)) (ps.take (j + 1)) = fi
                      cases h9 : decide (0 ≤ fi)
                      · simp [h9]
                        refine ⟨by kernel_rfl, ?_⟩
                        have hbd : badAt ps (j + 1) ps[j + 1] = false := by simp [badAt, hok, hi, h9]
                        simpa using next o (by simp [goodAt, hbd, hj1, hbb]) (fun e => by rw [h7] at e; cases e)
                      · simp [h9]
                        refine ⟨by kernel_rfl, ?_⟩
                        exact sigOk_no h (by simp [goodAt, badAt, hok, hi, h9])
                    · simp [hd]
                      refine call_d (c_impl_single ps[j + 1]) (by simp [hd]) (by simp) ?_
                      cases h12 : ps[j + 1].single
                      · simp
                        exact sigOk_no h (by simp [goodAt, badBy, h10, h11, h12, hj1])
                      · simp [h]
                        have hbb : badBy ps[j] ps[j + 1] = false := opt_good h hopt hno (by simpa using h10) (by simp [h12]) (fun e => by rw [h7] at e; cases e)
                        refine dr mixed ?_
                        have hsub : subRows (ps.map Param.c) 0 ((j : Int) + 1) = (ps.take (j + 1)).map Param.c := by have := subRows_zero (ps.map Param.c) (j + 1); simpa using this
                        have hk2 : (j : Int) + 1 ≤ ps.length := by omega
                        have hk3 : (0 : Int) ≤ (j : Int) + 1 := by omega
                        have hk4 : ((j : Int) + 1).toNat = j + 1 := by omega
                        simp [h, hk, hj1, hk2, hk3, hk4, hsub]
                        refine DC.of (c_impl_find (ps.take (j + 1)) ps[j + 1].name (by simp; omega)) (by simp [hsub]) (by simp) ?_
                        generalize hi : idxOf (fun q => decide (q.name = ps[j + 1].name)) (ps.take (j + 1)) = fi
                        cases h9 : decide (0 ≤ fi)
                        · simp [h9]
                          refine ⟨by kernel_rfl, ?_⟩
                          have hbd : badAt ps (j + 1) ps[j + 1] = false := by simp [badAt, hok, hi, h9]
                          simpa using next o (by simp [goodAt, hbd, hj1, hbb]) (fun e => by rw [h7] at e; cases e)
                        · simp [h9]
                          refine ⟨by kernel_rfl, ?_⟩
                          exact sigOk_no h (by simp [goodAt, badAt, hok, hi, h9])
                  · simp [h10]
                    exact sigOk_no h (by simp [goodAt, badBy, h10, hj1])
              · cases o
                · simp
                  cases k with
                  | zero =>
                    simp [h]
                    refine dr mixed ?_
                    simp [h]
                    refine DC.of (c_impl_find [] ps[0].name (by simp)) (by simp [subRows]) (by simp) ?_
                    simp [idxOf]
                    refine ⟨by kernel_rfl, ?_⟩
                    simpa using next true (by simp [goodAt, badAt, hok, idxOf]) (fun _ => hd.symm)
                  | succ j =>
                    have hj1 : j < ps.length := by omega
                    have hj0 : (0 : Int) < (j : Int) + 1 := by omega
                    simp [h, hj0, hj1, i64_in (j : Int) (by omega)]
                    cases h10 : decide (ps[j + 1].kind < ps[j].kind)
                    · simp [h10]
                      cases h11 : ps[j + 1].kind == ps[j].kind
                      · simp [h]
                        have hbb : badBy ps[j] ps[j + 1] = false := opt_good h hopt hno (by simpa using h10) (by simp [h11]) (fun _ _ => hd)
                        refine dr mixed ?_
                        have hsub : subRows (ps.map Param.c) 0 ((j : Int) + 1) = (ps.take (j + 1)).map Param.c := by have := subRows_zero (ps.map Param.c) (j + 1); simpa using this
                        have hk2 : (j : Int) + 1 ≤ ps.length := by omega
                        have hk3 : (0 : Int) ≤ (j : Int) + 1 := by omega
                        have hk4 : ((j : Int) + 1).toNat = j + 1 := by omega
                        simp [h, hk, hj1, hk2, hk3, hk4, hsub]
                        refine DC.of (c_impl_find (ps.take (j + 1)) ps[j + 1].name (by simp; omega)) (by simp [hsub]) (by simp) ?_
                        generalize hi : idxOf (fun q => decide (q.name = ps[j + 1].name)) (ps.take (j + 1)) = fi
                        cases h9 : decide (0 ≤ fi)
                        · simp [h9]
                          refine ⟨by kernel_rfl, ?_⟩
                          have hbd : badAt ps (j + 1) ps[j + 1] = false := by simp [badAt, hok, hi, h9]
                          simpa using next true (by simp [goodAt, hbd, hj1, hbb]) (fun _ => hd.symm)
                        · simp [h9]
                          refine ⟨by kernel_rfl, ?_⟩
                          exact sigOk_no h (by simp [goodAt, badAt, hok, hi, h9])
                      · simp [hd]
                        refine call_d (c_impl_single ps[j + 1]) (by simp [hd]) (by simp) ?_
                        cases h12 : ps[j + 1].single
                        · simp
                          exact sigOk_no h (by simp [goodAt, badBy, h10, h11, h12, hj1])
                        · simp [h]
                          have hbb : badBy ps[j] ps[j + 1] = false := opt_good h hopt hno (by simpa using h10) (by simp [h12]) (fun _ _ => hd)
                          refine dr mixed ?_
                          have hsub : subRows (ps.map Param.c) 0 ((j : Int) + 1) = (ps.take (j + 1)).map Param.c := by have := subRows_zero (ps.map Param.c) (j + 1); simpa using this
                          have hk2 : (j : Int) + 1 ≤ ps.length := by omega
                          have hk3 : (0 : Int) ≤ (j : Int) + 1 := by omega
                          have hk4 : ((j : Int) + 1).toNat = j + 1 := by omega
                          simp [h, hk, hj1, hk2, hk3, hk4, hsub]
                          refine DC.of (c_impl_find (ps.take (j + 1)) ps[j + 1].name (by simp; omega)) (by simp [hsub]) (by simp) ?_
                          generalize hi : idxOf (fun q => decide (q.name = ps[j + 1].name)) (ps.take (j + 1)) = fi
                          cases h9 : decide (0 ≤ fi)
                          · simp [h9]
                            refine ⟨by kernel_rfl, ?_⟩
                            have hbd : badAt ps (j + 1) ps[j + 1] = false := by simp [badAt, hok, hi, h9]
                            simpa using next true (by simp [goodAt, hbd, hj1, hbb]) (fun _ => hd.symm)
                          · simp [h9]
                            refine ⟨by kernel_rfl, ?_⟩
                            exact sigOk_no h (by simp [goodAt, badAt, hok, hi, h9])
                    · simp [h10]
                      exact sigOk_no h (by simp [goodAt, badBy, h10, hj1])
                · simp
                  cases k with
                  | zero =>
                    simp [h]
                    refine dr mixed ?_
                    simp [h]
                    refine DC.of (c_impl_find [] ps[0].name (by simp)) (by simp [subRows]) (by simp) ?_
                    simp [idxOf]
                    refine ⟨by kernel_rfl, ?_⟩
                    simpa using next true (by simp [goodAt, badAt, hok, idxOf]) (fun _ => hd.symm)
                  | succ j =>
                    have hj1 : j < ps.length := by omega
                    have hj0 : (0 : Int) < (j : Int) + 1 := by omega
                    simp [h, hj0, hj1, i64_in (j : Int) (by omega)]
                    cases h10 : decide (ps[j + 1].kind < ps[j].kind)
                    · simp [h10]
                      cases h11 : ps[j + 1].kind == ps[j].kind
                      · simp [h]
                        have hbb : badBy ps[j] ps[j + 1] = false := opt_good h hopt hno (by simpa using h10) (by simp [h11]) (fun _ _ => hd)
                        refine dr mixed ?_
                        have hsub : subRows (ps.map Param.c) 0 ((j : Int) + 1) = (ps.take (j + 1)).map Param.c := by have := subRows_zero (ps.map Param.c) (j + 1); simpa using this
                        have hk2 : (j : Int) + 1 ≤ ps.length := by omega
                        have hk3 : (0 : Int) ≤ (j : Int) + 1 := by omega
                        have hk4 : ((j : Int) + 1).toNat = j + 1 := by omega
                        simp [h, hk, hj1, hk2, hk3, hk4, hsub]
                        refine DC.of (c_impl_find (ps.take (j + 1)) ps[j + 1].name (by simp; omega)) (by simp [hsub]) (by simp) ?_
                        generalize hi : idxOf (fun q => decide (q.name = ps[j + 1].name)) (ps.take (j + 1)) = fi
                        cases h9 : decide (0 ≤ fi)
                        · simp [h9]
                          refine ⟨by kernel_rfl, ?_⟩
                          have hbd : badAt ps (j + 1) ps[j + 1] = false := by simp [badAt, hok, hi, h9]
                          simpa using next true (by simp [goodAt, hbd, hj1, hbb]) (fun _ => hd.symm)
                        · simp [h9]
                          refine ⟨by kernel_rfl, ?_⟩
                          exact sigOk_no h (by simp [goodAt, badAt, hok, hi, h9])
                      · simp [hd]
                        refine call_d (c_impl_single ps[j + 1]) (by simp [hd]) (by simp) ?_
                        cases h12 : ps[j + 1].single
                        · simp
                          exact sigOk_no h (by simp [goodAt, badBy, h10, h11, h12, hj1])
                        · simp [h]
                          have hbb : badBy ps[j] ps[j + 1] = false := opt_good h hopt hno (by simpa using h10) (by simp [h12]) (fun _ _ => hd)
                          refine dr mixed ?_
                          have hsub : subRows (ps.map Param.c) 0 ((j : Int) + 1) = (ps.take (j + 1)).map Param.c := by have := subRows_zero (ps.map Param.c) (j + 1); simpa using this
                          have hk2 : (j : Int) + 1 ≤ ps.length := by omega
                          have hk3 : (0 : Int) ≤ (j : Int) + 1 := by omega
                          have hk4 : ((j : Int) + 1).toNat = j + 1 := by omega
                          simp [h, hk, hj1, hk2, hk3, hk4, hsub]
                          refine DC.of (c_impl_find (ps.take (j + 1)) ps[j + 1].name (by simp; omega)) (by simp [hsub]) (by simp) ?_
                          generalize hi : idxOf (fun q => decide (q.name = ps[j + 1].name)) (ps.take (j + 1)) = fi
                          cases h9 : decide (0 ≤ fi)
                          · simp [h9]
                            refine ⟨by kernel_rfl, ?_⟩
                            have hbd : badAt ps (j + 1) ps[j + 1] = false := by simp [badAt, hok, hi, h9]
                            simpa using next true (by simp [goodAt, hbd, hj1, hbb]) (fun _ => hd.symm)
                          · simp [h9]
                            refine ⟨by kernel_rfl, ?_⟩
                            exact sigOk_no h (by simp [goodAt, badAt, hok, hi, h9])
                    · simp [h10]
                      exact sigOk_no h (by simp [goodAt, badBy, h10, hj1])
  · simp [h]
    rw [sigOk_yes fun j hj => hno j hj (by omega)]; simp; omega
end Go.Proofs.K
/- The contracts of copies. -/
namespace Go.Proofs.K
open Go Go.Proofs Go.IntWalk

theorem c_Clone_Param (rows : List (List C)) (hsz : ∀ r ∈ rows, r.length = 4) (hl : Fit rows.length) : Con Tryz.prog 162 [vl rows] (fun r ms => r = .one (.ms 0) ∧ ms = [(4, rows)]) := by
  refine Con.nilOwn (Q := fun r ms => (r = .one (.ms 0) ∧ ms = [(4, rows)]) ∨ (r = .one .nil ∧ rows = [])) ?_ ?_
  · refine con_intro fi162 (by simp) ?_
    dsimp only [bodyOf, Tryz.f162, Option.getD]
    cases rows with
    | nil => simp
    | cons x rows =>
      simp
      simp only [List.length_cons] at hl
      exact ⟨⟨hsz x (by simp), fun r hr => hsz r (by simp [hr])⟩, by omega, by omega⟩
  · rintro r ms (h | ⟨h1, h2⟩)
    · exact .inl h
    · exact .inr ⟨h1, 4, rfl, by rw [h2]⟩
theorem c_clone_Param (rows : List (List C)) (hsz : ∀ r ∈ rows, r.length = 4) (hl : Fit rows.length) : Con Tryz.prog 123 [vl rows] (fun r ms => r = .one (.ms 0) ∧ ms = [(4, rows)]) := by
  refine con_intro fi123 (by simp) ?_
  dsimp only [bodyOf, Tryz.f123, Option.getD]; simp
  refine call_c (c_Clone_Param rows hsz hl) rfl ?_
  simp
  refine scall_inline fi161 (by simp) ?_
  dsimp only [bodyOf, Tryz.f161, Option.getD]; simp

theorem c_Clone_int (rows : List (List C)) (hsz : ∀ r ∈ rows, r.length = 1) (hl : Fit rows.length) : Con Tryz.prog 170 [vl rows] (fun r ms => r = .one (.ms 0) ∧ ms = [(1, rows)]) := by
  refine Con.nilOwn (Q := fun r ms => (r = .one (.ms 0) ∧ ms = [(1, rows)]) ∨ (r = .one .nil ∧ rows = [])) ?_ ?_
  · refine con_intro fi170 (by simp) ?_
    dsimp only [bodyOf, Tryz.f170, Option.getD]
    cases rows with
    | nil => simp
    | cons x rows =>
      simp
      simp only [List.length_cons] at hl
      exact ⟨⟨hsz x (by simp), fun r hr => hsz r (by simp [hr])⟩, by omega, by omega⟩
  · rintro r ms (h | ⟨h1, h2⟩)
    · exact .inl h
    · exact .inr ⟨h1, 1, rfl, by rw [h2]⟩
theorem c_clone_int (rows : List (List C)) (hsz : ∀ r ∈ rows, r.length = 1) (hl : Fit rows.length) : Con Tryz.prog 135 [vl rows] (fun r ms => r = .one (.ms 0) ∧ ms = [(1, rows)]) := by
  refine con_intro fi135 (by simp) ?_
  dsimp only [bodyOf, Tryz.f135, Option.getD]; simp
  refine call_c (c_Clone_int rows hsz hl) rfl ?_
  simp
  refine scall_inline fi169 (by simp) ?_
  dsimp only [bodyOf, Tryz.f169, Option.getD]; simp

theorem c_Clone_Pair (rows : List (List C)) (hsz : ∀ r ∈ rows, r.length = 2) (hl : Fit rows.length) : Con Tryz.prog 183 [vl rows] (fun r ms => r = .one (.ms 0) ∧ ms = [(2, rows)]) := by
  refine Con.nilOwn (Q := fun r ms => (r = .one (.ms 0) ∧ ms = [(2, rows)]) ∨ (r = .one .nil ∧ rows = [])) ?_ ?_
  · refine con_intro fi183 (by simp) ?_
    dsimp only [bodyOf, Tryz.f183, Option.getD]
    cases rows with
    | nil => simp
    | cons x rows =>
      simp
      simp only [List.length_cons] at hl
      exact ⟨⟨hsz x (by simp), fun r hr => hsz r (by simp [hr])⟩, by omega, by omega⟩
  · rintro r ms (h | ⟨h1, h2⟩)
    · exact .inl h
    · exact .inr ⟨h1, 2, rfl, by rw [h2]⟩
theorem c_clone_Pair (rows : List (List C)) (hsz : ∀ r ∈ rows, r.length = 2) (hl : Fit rows.length) : Con Tryz.prog 154 [vl rows] (fun r ms => r = .one (.ms 0) ∧ ms = [(2, rows)]) := by
  refine con_intro fi154 (by simp) ?_
  dsimp only [bodyOf, Tryz.f154, Option.getD]; simp
  refine call_c (c_Clone_Pair rows hsz hl) rfl ?_
  simp
  refine scall_inline fi137 (by simp) ?_
  dsimp only [bodyOf, Tryz.f137, Option.getD]; simp

theorem par_len {ps : List Param} : ∀ r ∈ ps.map Param.c, r.length = 4 := fun r hr => by
  simp only [List.mem_map] at hr; obtain ⟨p, _, rfl⟩ := hr; rfl
theorem ix_len {l : List Int} : ∀ r ∈ l.map ix, r.length = 1 := fun r hr => by
  simp only [List.mem_map] at hr; obtain ⟨p, _, rfl⟩ := hr; rfl
theorem pair_len {l : List Pair} : ∀ r ∈ l.map Pair.c, r.length = 2 := fun r hr => by
  simp only [List.mem_map] at hr; obtain ⟨p, _, rfl⟩ := hr; rfl

theorem c_impl_Sig_copyOf (ps : List Param) (hp : Fit ps.length) : Con Tryz.prog 78 [vsig ps] (fun r ms => r = .agg [.ms 0] ∧ ms = [(4, ps.map Param.c)]) := by
  refine con_intro fi78 (by simp) ?_
  dsimp only [bodyOf, Tryz.f78, Option.getD]; simp
  refine call_d (c_clone_Param (ps.map Param.c) par_len (by simpa using hp)) rfl (by simp) ?_
  simp

theorem c_impl_Flat_copyOf (f : Flat) (hf : FFit f) : Con Tryz.prog 113 [vflat f] (fun r ms => r = .agg [.ms 0, .ms 1] ∧ ms = [(1, f.places.map ix), (2, f.names.map Pair.c)]) := by
  have h1 := hf.places
  have h2 := hf.names
  refine con_intro fi113 (by simp) ?_
  dsimp only [bodyOf, Tryz.f113, Option.getD]; simp
  refine dr mixed ?_
  simp
  refine DC.of (c_clone_int (f.places.map ix) ix_len (by simpa using h1)) rfl (by simp) ?_
  simp
  refine DC.of (c_clone_Pair (f.names.map Pair.c) pair_len (by simpa using h2)) rfl (by simp) ?_
  simp
  exact (by kernel_rfl : _ = true)
end Go.Proofs.K
/- The contracts of the library's functions on lists. -/
namespace Go.Proofs.K
open Go Go.Proofs Go.IntWalk

theorem c_Concat_string (r1 r2 : List (List C)) (h1 : ∀ r ∈ r1, r.length = 1) (h2 : ∀ r ∈ r2, r.length = 1) (l1 : r1.length < 65536) (l2 : r2.length < 65536) :
    Con Tryz.prog 145 [vl [[.lst r1], [.lst r2]]] (fun r ms => r = .one (.ms 0) ∧ ms = [(1, r1 ++ r2)]) := by
  refine con_intro fi145 (by simp) ?_
  dsimp only [bodyOf, Tryz.f145, Option.getD]; simp
  refine lp [0, 3, 10, 11, 9] (fun k : Nat => ⟨[(0, vl [[.lst r1], [.lst r2]]), (3, vi ([0, r1.length, r1.length + r2.length].getD k 0 : Nat)), (10, vi 2), (11, vi k), (9, vl [[.lst r1], [.lst r2]])], [], 0⟩)
    (fun k => k ≤ 2) (fun k => 2 - k) 0 (by simp) (by simp) ?_
  intro k hk
  have hcase : k = 0 ∨ k = 1 ∨ k = 2 := by omega
  rcases hcase with rfl | rfl | rfl
  · have w0 : IntKind.i64.wrap (r1.length : Int) = r1.length := i64_in _ (by omega)
    have g0 : ¬ (r1.length : Int) < 0 := by omega
    simp [w0, g0]
    exact ⟨1, ⟨by simp, rfl⟩, by omega, by omega⟩
  · have w0 : IntKind.i64.wrap ((r1.length : Int) + r2.length) = ((r1.length + r2.length : Nat) : Int) := by rw [i64_in _ (by omega)]; simp
    have g0 : ¬ (r1.length : Int) + r2.length < 0 := by omega
    simp [w0, g0]
    exact ⟨2, ⟨by simp, rfl⟩, by omega, by omega⟩
  · simp
    refine scall_inline fi182 (by simp) ?_
    dsimp only [bodyOf, Tryz.f182, Option.getD]
    have w0 : IntKind.i64.wrap 0 = 0 := rfl
    have wn : IntKind.i64.wrap ((r1.length : Int) + r2.length) = ((r1.length + r2.length : Nat) : Int) := by rw [i64_in _ (by omega)]; simp
    have h0 : ¬ (r1.length : Int) + r2.length < 0 := by omega
    by_cases h : 0 < r1.length + r2.length
    · have h3 : (0 : Int) < (r1.length : Int) + r2.length := by omega
      simp [w0, wn, h0, h3]
      refine ⟨⟨by omega, by omega⟩, Int.le_max_right _ _, ?_⟩
      refine lp [6, 25, 26, 27] (fun k : Nat => ⟨[(6, .one (.ms 0)), (25, vl [[.lst r1], [.lst r2]]), (26, vi 2), (27, vi k)], [(0, .arr 1 ([[], r1, r1 ++ r2].getD k []))], 1⟩)
        (fun k => k ≤ 2) (fun k => 2 - k) 0 (by simp) (by simp) ?_
      intro k hk
      have hcase : k = 0 ∨ k = 1 ∨ k = 2 := by omega
      rcases hcase with rfl | rfl | rfl
      · simp
        refine ⟨⟨h1, by omega, by omega⟩, 1, ⟨rfl, rfl⟩, by omega, by omega⟩
      · simp
        refine ⟨⟨h2, by omega, by omega⟩, 2, ⟨rfl, rfl⟩, by omega, by omega⟩
      · simp
    · have h3 : ¬ (0 : Int) < (r1.length : Int) + r2.length := by omega
      simp [w0, wn, h0, h3]
      refine (gvS 6 1 (by simp)).aw ?_
      refine lp [6, 25, 26, 27] (fun k : Nat => ⟨[(6, .one (.ms 0)), (25, vl [[.lst r1], [.lst r2]]), (26, vi 2), (27, vi k)], [(0, .arr 1 ([[], r1, r1 ++ r2].getD k []))], 1⟩)
        (fun k => k ≤ 2) (fun k => 2 - k) 0 (by simp) (by simp) ?_
      intro k hk
      have hcase : k = 0 ∨ k = 1 ∨ k = 2 := by omega
      rcases hcase with rfl | rfl | rfl
      · simp
        refine ⟨⟨h1, by omega, by omega⟩, 1, ⟨rfl, rfl⟩, by omega, by omega⟩
      · simp
        refine ⟨⟨h2, by omega, by omega⟩, 2, ⟨rfl, rfl⟩, by omega, by omega⟩
      · simp

theorem c_Concat_Param (r1 r2 : List (List C)) (h1 : ∀ r ∈ r1, r.length = 4) (h2 : ∀ r ∈ r2, r.length = 4) (l1 : r1.length < 65536) (l2 : r2.length < 65536) :
    Con Tryz.prog 143 [vl [[.lst r1], [.lst r2]]] (fun r ms => r = .one (.ms 0) ∧ ms = [(4, r1 ++ r2)]) := by
  refine con_intro fi143 (by simp) ?_
  dsimp only [bodyOf, Tryz.f143, Option.getD]; simp
  refine lp [0, 3, 10, 11, 9] (fun k : Nat => ⟨[(0, vl [[.lst r1], [.lst r2]]), (3, vi ([0, r1.length, r1.length + r2.length].getD k 0 : Nat)), (10, vi 2), (11, vi k), (9, vl [[.lst r1], [.lst r2]])], [], 0⟩)
    (fun k => k ≤ 2) (fun k => 2 - k) 0 (by simp) (by simp) ?_
  intro k hk
  have hcase : k = 0 ∨ k = 1 ∨ k = 2 := by omega
  rcases hcase with rfl | rfl | rfl
  · have w0 : IntKind.i64.wrap (r1.length : Int) = r1.length := i64_in _ (by omega)
    have g0 : ¬ (r1.length : Int) < 0 := by omega
    simp [w0, g0]
    exact ⟨1, ⟨by simp, rfl⟩, by omega, by omega⟩
  · have w0 : IntKind.i64.wrap ((r1.length : Int) + r2.length) = ((r1.length + r2.length : Nat) : Int) := by rw [i64_in _ (by omega)]; simp
    have g0 : ¬ (r1.length : Int) + r2.length < 0 := by omega
    simp [w0, g0]
    exact ⟨2, ⟨by simp, rfl⟩, by omega, by omega⟩
  · simp
    refine scall_inline fi177 (by simp) ?_
    dsimp only [bodyOf, Tryz.f177, Option.getD]
    have w0 : IntKind.i64.wrap 0 = 0 := rfl
    have wn : IntKind.i64.wrap ((r1.length : Int) + r2.length) = ((r1.length + r2.length : Nat) : Int) := by rw [i64_in _ (by omega)]; simp
    have h0 : ¬ (r1.length : Int) + r2.length < 0 := by omega
    by_cases h : 0 < r1.length + r2.length
    · have h3 : (0 : Int) < (r1.length : Int) + r2.length := by omega
      simp [w0, wn, h0, h3]
      refine ⟨⟨by omega, by omega⟩, Int.le_max_right _ _, ?_⟩
      refine lp [6, 25, 26, 27] (fun k : Nat => ⟨[(6, .one (.ms 0)), (25, vl [[.lst r1], [.lst r2]]), (26, vi 2), (27, vi k)], [(0, .arr 4 ([[], r1, r1 ++ r2].getD k []))], 1⟩)
        (fun k => k ≤ 2) (fun k => 2 - k) 0 (by simp) (by simp) ?_
      intro k hk
      have hcase : k = 0 ∨ k = 1 ∨ k = 2 := by omega
      rcases hcase with rfl | rfl | rfl
      · simp
        refine ⟨⟨h1, by omega, by omega⟩, 1, ⟨rfl, rfl⟩, by omega, by omega⟩
      · simp
        refine ⟨⟨h2, by omega, by omega⟩, 2, ⟨rfl, rfl⟩, by omega, by omega⟩
      · simp
    · have h3 : ¬ (0 : Int) < (r1.length : Int) + r2.length := by omega
      simp [w0, wn, h0, h3]
      refine (gvS 6 4 (by simp)).aw ?_
      refine lp [6, 25, 26, 27] (fun k : Nat => ⟨[(6, .one (.ms 0)), (25, vl [[.lst r1], [.lst r2]]), (26, vi 2), (27, vi k)], [(0, .arr 4 ([[], r1, r1 ++ r2].getD k []))], 1⟩)
        (fun k => k ≤ 2) (fun k => 2 - k) 0 (by simp) (by simp) ?_
      intro k hk
      have hcase : k = 0 ∨ k = 1 ∨ k = 2 := by omega
      rcases hcase with rfl | rfl | rfl
      · simp
        refine ⟨⟨h1, by omega, by omega⟩, 1, ⟨rfl, rfl⟩, by omega, by omega⟩
      · simp
        refine ⟨⟨h2, by omega, by omega⟩, 2, ⟨rfl, rfl⟩, by omega, by omega⟩
      · simp

end Go.Proofs.K
/- The contracts of union, places, shapes. -/
namespace Go.Proofs.K
open Go Go.Proofs Go.IntWalk

theorem c_Index_string (l : List ByteArray) (s : ByteArray) (hl : Fit l.length) : Con Tryz.prog 147 [vtx l, vs s] (fun r ms => r = vi (idxOf (fun x => decide (s = x)) l) ∧ ms = []) := by
  refine con_intro fi147 (by simp) ?_
  dsimp only [bodyOf, Tryz.f147, Option.getD]; simp
  refine lp [0, 1, 7, 8] (fun k : Nat => ⟨[(0, vtx l), (1, vs s), (7, vi l.length), (8, vi k)], [], 0⟩) (fun k => k ≤ l.length ∧ ∀ j (h : j < l.length), j < k → decide (s = l[j]) = false) (fun k => l.length - k) 0 (by simp) (by simp) ?_
  intro k ⟨hk, hno⟩
  by_cases h : k < l.length
  · cases h1 : decide (s = l[k])
    · simp [h, h1]
      exact ⟨k + 1, wrapN k (by omega), ⟨by omega, fun j hj hjk => by
        by_cases e : j = k
        · subst e; simpa using h1
        · simpa using hno j hj (by omega)⟩, by omega⟩
    · simp [h, h1]
      exact (idxOf_hit h h1 hno).symm
  · simp [h]
    exact (idxOf_none fun j hj => hno j hj (by omega)).symm

theorem has_idx (l : List ByteArray) (s : ByteArray) : decide (0 ≤ idxOf (fun x => decide (s = x)) l) = hasT l s := by
  cases h : hasT l s
  · have := hasT_not.1 h
    rw [idxOf_none fun j hj => by
      rw [decide_eq_false_iff_not]; intro e; exact this (e ▸ List.getElem_mem hj)]
    rfl
  · obtain ⟨j, hj, e⟩ := List.getElem_of_mem (hasT_iff.1 h)
    have := idxOf_nonneg (q := fun x => decide (s = x)) hj (by simp [e])
    simpa using this

theorem c_Contains_string (l : List ByteArray) (s : ByteArray) (hl : Fit l.length) : Con Tryz.prog 101 [vtx l, vs s] (fun r ms => r = vb (hasT l s) ∧ ms = []) := by
  refine con_intro fi101 (by simp) ?_
  dsimp only [bodyOf, Tryz.f101, Option.getD]; simp
  refine call_d (c_Index_string l s hl) rfl (by simp) ?_
  simp [has_idx]

def filtN (q : Param → Bool) (ps : List Param) : List ByteArray := (ps.filter q).map Param.name
theorem filtN_take {q : Param → Bool} {ps : List Param} {k : Nat} (hk : k < ps.length) : filtN q (ps.take (k + 1)) = filtN q (ps.take k) ++ (if q ps[k] then [ps[k].name] else []) := by
  unfold filtN
  rw [List.take_add_one, List.getElem?_eq_getElem hk]
  simp only [Option.toList, List.filter_append, List.map_append]
  by_cases h : q ps[k] <;> simp [h]
theorem filtN_len {q : Param → Bool} {ps : List Param} : (filtN q ps).length = cnt q ps := by unfold filtN cnt; simp

theorem c_impl_namesOf_placed (ps : List Param) (hp : SFit ps) : Con Tryz.prog 155 [vsig ps, .one (.fn 65 [])] (fun r ms => r = .one (.ms 0) ∧ ms = [(1, (filtN Param.placed ps).map tx)]) := by
  have hpl := hp.len
  refine con_intro fi155 (by simp) ?_
  dsimp only [bodyOf, Tryz.f155, Option.getD]; simp
  refine (gvS 5 1 (by simp)).aw ?_
  refine lp [1, 2, 5, 9, 10, 11] (fun k : Nat => ⟨[(1, .one (.fn 65 [])), (2, .one (.ptr 0 0)), (5, .one (.ms 1)), (9, vps ps), (10, vi ps.length), (11, vi k)], [(0, .box [.c (.lst (ps.map Param.c))]), (1, .arr 1 ((filtN Param.placed (ps.take k)).map tx))], 2⟩)
    (fun k => k ≤ ps.length) (fun k => ps.length - k) 0 (by simp [filtN]) (by simp) ?_
  intro k hk
  by_cases h : k < ps.length
  · simp [h]
    refine call_d (c_impl_placed ps[k]) rfl (by simp) ?_
    cases h1 : ps[k].placed
    · simp
      exact ⟨k + 1, ⟨wrapN k (by omega), by rw [filtN_take h, h1]; simp⟩, by omega, by omega⟩
    · simp
      have hc := filtN_len (q := Param.placed) (ps := ps.take k)
      have hc2 := cnt_le (q := Param.placed) (l := ps.take k)
      simp at hc2
      refine ⟨⟨by omega, by omega⟩, k + 1, ⟨wrapN k (by omega), by rw [filtN_take h, h1]; simp⟩, by omega, by omega⟩
  · have : k = ps.length := by omega
    subst this
    simp
    refine scall_inline fi117 (by simp) ?_
    dsimp only [bodyOf, Tryz.f117, Option.getD]; simp

theorem c_impl_places (ps : List Param) (hp : SFit ps) : Con Tryz.prog 114 [vsig ps] (fun r ms => r = vi (cnt Param.placed ps) ∧ ms = []) := by
  refine con_intro fi114 (by simp) ?_
  dsimp only [bodyOf, Tryz.f114, Option.getD]; simp
  refine call_d (c_impl_namesOf_placed ps hp) rfl (by simp) ?_
  simp [filtN_len]

theorem c_impl_union (a b : List ByteArray) (ha : a.length < 65536) (hb : b.length < 65536) : Con Tryz.prog 100 [vtx a, vtx b] (fun r ms => r = .one (.ms 0) ∧ ms = [(1, (sortT (a ++ b)).map tx)]) := by
  refine con_intro fi100 (by simp) ?_
  dsimp only [bodyOf, Tryz.f100, Option.getD]; simp
  refine call_d (c_Concat_string (a.map tx) (b.map tx) tx_all tx_all (by simpa using ha) (by simpa using hb)) rfl (by simp) ?_
  simp
  refine scall_sort fi116.callable Tryz.slices_Sort_string Tryz.slices_Sort_string_none (l := a ++ b) (by simp) (by simp; omega) ?_
  simp
  refine scall_compact fi146.callable Tryz.slices_Compact_string Tryz.slices_Compact_string_empty (l := sortM (a ++ b)) (by simp) (by rw [sortM_len]; simp; omega) ?_
  simp
  refine scall_inline fi117 (by simp) ?_
  dsimp only [bodyOf, Tryz.f117, Option.getD]; simp
  rw [compM_sortM]

theorem c_impl_ValidShape (n : Nat) (l : List ByteArray) (hl : Fit l.length) (hs : ∀ s ∈ l, Fit s.size) : Con Tryz.prog 67 [vsh ⟨n, l⟩] (fun r ms => r = vb (shapeOk ⟨n, l⟩) ∧ ms = []) := by
  refine con_intro fi67 (by simp) ?_
  dsimp only [bodyOf, Tryz.f67, Option.getD]; simp
  refine lp [1, 6, 7, 8] (fun k : Nat => ⟨[(1, .one (.ptr 0 0)), (6, vtx l), (7, vi l.length), (8, vi k)], [(0, .box [.c (.int .i64 n), .c (.lst (l.map tx))])], 1⟩)
    (fun k => k ≤ l.length ∧ ∀ j (h : j < l.length), j < k → okN l j = true) (fun k => l.length - k) 0 (by simp) (by simp) ?_
  intro k ⟨hk, hno⟩
  by_cases h : k < l.length
  · have bad : okN l k = false → shapeOk ⟨n, l⟩ = false := fun hb => by unfold shapeOk; simp only [namesOk_no h hb, Bool.false_and]
    have next : okN l k = true → ∃ a : Nat, IntKind.i64.wrap (↑k + 1) = ↑a ∧ (a ≤ l.length ∧ ∀ j (h : j < l.length), j < a → okN l j = true) ∧ l.length - a < l.length - k := fun hg =>
      ⟨k + 1, wrapN k (by omega), ⟨by omega, fun j hj hjk => by
        by_cases e : j = k
        · subst e; exact hg
        · exact hno j hj (by omega)⟩, by omega⟩
    simp [h]
    refine call_d (c_impl_isName l[k] (hs _ (by simp))) rfl (by simp) ?_
    cases h1 : nameOk l[k]
    · simp
      exact bad (by simp [okN, h, h1])
    · cases k with
      | zero =>
        simp
        simpa using next (by simp [okN, h, h1])
      | succ j =>
        have hj : j < l.length := by omega
        have hj0 : (0 : Int) < (j : Int) + 1 := by omega
        simp [hj0, hj, h, i64_in (j : Int) (by omega)]
        cases h2 : sls l[j] l[j + 1]
        · simp
          exact bad (by simp [okN, h, h1, h2, hj])
        · simp
          simpa using next (by simp [okN, h, h1, h2, hj])
  · simp [h]
    refine call_d (c_impl_in _ _ _) rfl (by simp) ?_
    unfold shapeOk
    simp only [namesOk_yes fun j hj => hno j hj (by omega)]
    cases h1 : inR n 0 8
    · simp
    · simp
      omega

theorem c_impl_FlatOf (n : Nat) (l : List ByteArray) (hl : Fit l.length) (hs : ∀ s ∈ l, Fit s.size) (hok : shapeOk ⟨n, l⟩ = true) :
    Con Tryz.prog 68 [vsh ⟨n, l⟩] (fun r ms => r = .agg [.ms 0, .ms 1] ∧ ms = [(1, (flatOfS ⟨n, l⟩).places.map ix), (2, (flatOfS ⟨n, l⟩).names.map Pair.c)]) := by
  have hn : n ≤ 8 := by
    unfold shapeOk inR at hok
    simp only [Bool.and_eq_true, decide_eq_true_eq] at hok
    omega
  refine con_intro fi68 (by simp) ?_
  dsimp only [bodyOf, Tryz.f68, Option.getD]; simp
  refine call_d (c_impl_ValidShape n l hl hs) rfl (by simp) ?_
  simp [hok]
  refine ⟨⟨by omega, by omega⟩, ?_⟩
  refine (gbS 3 1 2 rfl rfl).aw ?_
  refine lp [1, 2, 3, 15, 16, 17] (fun k : Nat => ⟨[(1, .one (.ptr 0 0)), (2, .one (.ptr 1 0)), (3, .one (.ptr 2 0)), (15, vtx l), (16, vi l.length), (17, vi k)],
      [(0, .box [.c (.int .i64 n), .c (.lst (l.map tx))]), (1, .box [.nil, .nil]), (2, .box [.ms 3, .ms 4]), (3, .arr 1 ((List.replicate n 0).map ix)), (4, .arr 2 (((l.take k).map fun s => Pair.mk s 0).map Pair.c))], 5⟩)
    (fun k => k ≤ l.length) (fun k => l.length - k) 0 (by simp) (by simp) ?_
  intro k hk
  by_cases h : k < l.length
  · simp [h]
    refine ⟨⟨by omega, by omega⟩, k + 1, ⟨wrapN k (by omega), ?_⟩, by omega, by omega⟩
    rw [List.take_add_one]
    simp [h]
  · have : k = l.length := by omega
    subst this
    simp
    refine call_d (c_impl_Flat_copyOf (flatOfS ⟨n, l⟩) ⟨by simp [flatOfS]; omega, by simp [flatOfS]; omega⟩) (by simp [flatOfS]) (by simp) ?_
    simp
end Go.Proofs.K
/- The contract of the program's needs. -/
namespace Go.Proofs.K
open Go Go.Proofs Go.IntWalk

def needsI (ps : List Param) (n : Nat) : Option (List ByteArray) := if (inR n 0 8 && takesN ps n) = true then some (needT ps n) else none
def nR : Option (List ByteArray) → PV × List (Nat × List (List C))
  | none => (.tup [.one .nil, vb false], [])
  | some l => (.tup [.one (.ms 0), vb true], [(1, l.map tx)])
@[simp] theorem nR_none : nR none = (.tup [.one .nil, vb false], []) := rfl
@[simp] theorem nR_some (l : List ByteArray) : nR (some l) = (.tup [.one (.ms 0), vb true], [(1, l.map tx)]) := rfl

theorem placed_single {p : Param} (h : p.placed = true) : p.single = true := by simp [Param.single, h]
theorem needL_len' (n : Int) (ps : List Param) (k : Nat) : (needL n 0 (ps.take k)).length ≤ k := Nat.le_trans (needL_len n _ 0) (by simp; omega)

theorem c_impl_needs (ps : List Param) (n : Nat) (hn : Fit n) (hok : sigOk ps = true) (hp : SFit ps) :
    Con Tryz.prog 69 [vsig ps, vi n] (fun r ms => r = (nR (needsI ps n)).1 ∧ ms = (nR (needsI ps n)).2) := by
  have hpl := hp.len
  refine con_intro fi69 (by simp) ?_
  dsimp only [bodyOf, Tryz.f69, Option.getD]; simp
  refine call_d (c_impl_in _ _ _) rfl (by simp) ?_
  unfold needsI
  cases h0 : inR n 0 8
  · simp
  · simp
    refine call_d (c_impl_places ps hp) rfl (by simp) ?_
    cases h1 : decide (cnt Param.placed ps < n)
    · have h1' : ¬ cnt Param.placed ps < n := by simpa using h1
      simp [h1']
      refine (gvS 6 1 (by simp)).aw ?_
      refine lp [1, 2, 6, 7, 25, 26, 27] (fun k : Nat => ⟨[(1, vi n), (2, .one (.ptr 0 0)), (6, .one (.ms 1)), (7, vi (cnt Param.placed (ps.take k))), (25, vps ps), (26, vi ps.length), (27, vi k)], [(0, .box [.c (.lst (ps.map Param.c))]), (1, .arr 1 ((needL n 0 (ps.take k)).map tx))], 2⟩)
        (fun k => k ≤ ps.length ∧ ((ps.take k).drop n).all (fun p => !(p.kind == 0 && !p.hasDefault)) = true) (fun k => ps.length - k) 0 (by simp [needL, cnt]) (by simp) ?_
      intro k ⟨hk, hall⟩
      have hnl := needL_len' n ps k
      by_cases h : k < ps.length
      · have hcl := cnt_le (q := Param.placed) (l := ps.take k)
        simp only [List.length_take] at hcl
        have hct := cnt_take (q := Param.placed) h
        have hnt := needL_take n ps k h
        have hdt := drop_take_all (q := fun p : Param => !(p.kind == 0 && !p.hasDefault)) (n := n) h
        have bad : takesN ps n = false → (nR (if takesN ps n = true then some (needT ps n) else none)) = (.tup [.one .nil, vb false], []) := fun hb => by rw [hb]; rfl
        have hfail : (decide (k < n) || !(ps[k].kind == 0 && !ps[k].hasDefault)) = false → takesN ps n = false := fun hb => by
          unfold takesN
          have : (ps.drop n).all (fun p => !(p.kind == 0 && !p.hasDefault)) = false := by
            rw [Bool.eq_false_iff]; intro hc
            rw [List.all_eq_true] at hc
            simp only [Bool.or_eq_false_iff, decide_eq_false_iff_not] at hb
            have := hc ps[k] (by
              have e : ps[k] = (ps.drop n)[k - n]'(by simp; omega) := by rw [List.getElem_drop]; congr 1; omega
              rw [e]; exact List.getElem_mem _)
            rw [hb.2] at this; cases this
          rw [this, Bool.and_false]
        have next : ∀ (c : Nat) (L : List ByteArray), cnt Param.placed (ps.take (k + 1)) = c → needL n 0 (ps.take (k + 1)) = L → (decide (k < n) || !(ps[k].kind == 0 && !ps[k].hasDefault)) = true →
            ∃ a : Nat, (((c : Int) = ↑(cnt Param.placed (ps.take a)) ∧ IntKind.i64.wrap (↑k + 1) = ↑a) ∧ L.map tx = (needL n 0 (ps.take a)).map tx) ∧ (a ≤ ps.length ∧ ((ps.take a).drop n).all (fun p => !(p.kind == 0 && !p.hasDefault)) = true) ∧ ps.length - a < ps.length - k :=
          fun c L hc hL hq => ⟨k + 1, ⟨⟨by rw [hc], wrapN k (by omega)⟩, by rw [hL]⟩, ⟨by omega, by rw [hdt, hall, hq]; rfl⟩, by omega⟩
        simp [h]
        refine call_d (c_impl_placed ps[k]) rfl (by simp) ?_
        cases h5 : ps[k].placed
        · rw [h5] at hct
          have hk0 : (ps[k].kind == 0) = false := by simp only [Param.placed, Bool.or_eq_false_iff] at h5; exact h5.1
          have hk1 : (ps[k].kind == 1) = false := by simp only [Param.placed, Bool.or_eq_false_iff] at h5; exact h5.2
          simp
          refine call_d (c_impl_single ps[k]) rfl (by simp) ?_
          cases h6 : ps[k].single
          · have hop : ps[k].opn k n = false := by
              simp only [Param.single, h5, Bool.false_or] at h6
              simp [Param.opn, h6, hk1]
            rw [hop] at hnt
            simp
            have hh := next _ _ hct hnt (by simp [hk0])
            simpa using hh
          · have hop : ps[k].opn k n = true := by
              simp only [Param.single, h5, Bool.false_or] at h6
              simp [Param.opn, h6]
            rw [hop] at hnt
            cases h7 : ps[k].hasDefault
            · rw [h7] at hnt
              simp [h7]
              refine call_d (c_impl_placed ps[k]) (by simp [h7]) (by simp) ?_
              simp [h5, hk0]
              refine ⟨⟨by omega, by omega⟩, ?_⟩
              have hh := next _ _ hct hnt (by simp [hk0])
              simpa using hh
            · rw [h7] at hnt
              simp [h7]
              have hh := next _ _ hct hnt (by simp [hk0])
              simpa using hh
        · rw [h5] at hct
          have hcp := cnt_placed hok h h5
          have hps := placed_single h5
          have hk3 : (ps[k].kind == 3) = false := by
            simp only [Param.placed, Bool.or_eq_true, beq_iff_eq] at h5
            simp; omega
          rw [hcp] at hct
          simp only [if_true] at hct
          simp [wrapN _ (show cnt Param.placed (ps.take k) < 4294967296 by omega)]
          refine call_d (c_impl_single ps[k]) rfl (by simp) ?_
          simp only [hps]
          cases h7 : ps[k].hasDefault
          · simp [h7]
            refine call_d (c_impl_placed ps[k]) (by simp [h7]) (by simp) ?_
            simp only [h5]
            by_cases h8 : k < n
            · have h8' : (k : Int) + 1 ≤ n := by omega
              simp [hcp, h8']
              have hop : (ps[k].opn k n && !ps[k].hasDefault) = false := by simp [Param.opn, hk3]; intro _ hc; omega
              rw [hop] at hnt
              have hh := next _ _ hct hnt (by simp [h8])
              simpa using hh
            · have h8' : ¬ (k : Int) + 1 ≤ n := by omega
              cases h9 : ps[k].kind == 0
              · have hk1 : (ps[k].kind == 1) = true := by
                  simp only [Param.placed, h9, Bool.false_or] at h5; exact h5
                have hop : (ps[k].opn k n && !ps[k].hasDefault) = true := by simp [Param.opn, hk3, hk1, h7]; omega
                rw [hop] at hnt
                simp [hcp, h8', h9]
                refine ⟨⟨by omega, by omega⟩, ?_⟩
                have hh := next _ _ hct hnt (by simp [h9])
                simpa using hh
              · simp [hcp, h8', h9]
                have hb := bad (hfail (by simp [h8, h9, h7]))
                rw [hb]; simp
          · simp [h7]
            have hop : (ps[k].opn k n && !ps[k].hasDefault) = false := by simp [h7]
            rw [hop] at hnt
            have hh := next _ _ hct hnt (by simp [h7])
            simpa [hcp] using hh
      · have : k = ps.length := by omega
        subst this
        simp only [List.take_length] at hall hnl
        have ht : takesN ps n = true := by unfold takesN; rw [hall, h1, Bool.false_and]; rfl
        simp only [ht]
        simp
        refine scall_sort fi116.callable Tryz.slices_Sort_string Tryz.slices_Sort_string_none (l := needL n 0 ps) (by simp) (by omega) ?_
        simp
        refine scall_inline fi117 (by simp) ?_
        dsimp only [bodyOf, Tryz.f117, Option.getD]; simp
        rw [sortM_eq (needL_nodup hok n)]; rfl
    · have h1' : cnt Param.placed ps < n := by simpa using h1
      simp [h1']
      refine call_d (c_impl_has ps 2 hpl) rfl (by simp) ?_
      cases h4 : decide (idxOf (fun p => p.kind == 2) ps < 0)
      · have h4' : (0 : Int) ≤ idxOf (fun p => p.kind == 2) ps := by simpa using h4
        simp [h4']
        refine (gvS 6 1 (by simp)).aw ?_
        refine lp [1, 2, 6, 7, 25, 26, 27] (fun k : Nat => ⟨[(1, vi n), (2, .one (.ptr 0 0)), (6, .one (.ms 1)), (7, vi (cnt Param.placed (ps.take k))), (25, vps ps), (26, vi ps.length), (27, vi k)], [(0, .box [.c (.lst (ps.map Param.c))]), (1, .arr 1 ((needL n 0 (ps.take k)).map tx))], 2⟩)
          (fun k => k ≤ ps.length ∧ ((ps.take k).drop n).all (fun p => !(p.kind == 0 && !p.hasDefault)) = true) (fun k => ps.length - k) 0 (by simp [needL, cnt]) (by simp) ?_
        intro k ⟨hk, hall⟩
        have hnl := needL_len' n ps k
        by_cases h : k < ps.length
        · have hcl := cnt_le (q := Param.placed) (l := ps.take k)
          simp only [List.length_take] at hcl
          have hct := cnt_take (q := Param.placed) h
          have hnt := needL_take n ps k h
          have hdt := drop_take_all (q := fun p : Param => !(p.kind == 0 && !p.hasDefault)) (n := n) h
          have bad : takesN ps n = false → (nR (if takesN ps n = true then some (needT ps n) else none)) = (.tup [.one .nil, vb false], []) := fun hb => by rw [hb]; rfl
          have hfail : (decide (k < n) || !(ps[k].kind == 0 && !ps[k].hasDefault)) = false → takesN ps n = false := fun hb => by
            unfold takesN
            have : (ps.drop n).all (fun p => !(p.kind == 0 && !p.hasDefault)) = false := by
              rw [Bool.eq_false_iff]; intro hc
              rw [List.all_eq_true] at hc
              simp only [Bool.or_eq_false_iff, decide_eq_false_iff_not] at hb
              have := hc ps[k] (by
                have e : ps[k] = (ps.drop n)[k - n]'(by simp; omega) := by rw [List.getElem_drop]; congr 1; omega
                rw [e]; exact List.getElem_mem _)
              rw [hb.2] at this; cases this
            rw [this, Bool.and_false]
          have next : ∀ (c : Nat) (L : List ByteArray), cnt Param.placed (ps.take (k + 1)) = c → needL n 0 (ps.take (k + 1)) = L → (decide (k < n) || !(ps[k].kind == 0 && !ps[k].hasDefault)) = true →
              ∃ a : Nat, (((c : Int) = ↑(cnt Param.placed (ps.take a)) ∧ IntKind.i64.wrap (↑k + 1) = ↑a) ∧ L.map tx = (needL n 0 (ps.take a)).map tx) ∧ (a ≤ ps.length ∧ ((ps.take a).drop n).all (fun p => !(p.kind == 0 && !p.hasDefault)) = true) ∧ ps.length - a < ps.length - k :=
            fun c L hc hL hq => ⟨k + 1, ⟨⟨by rw [hc], wrapN k (by omega)⟩, by rw [hL]⟩, ⟨by omega, by rw [hdt, hall, hq]; rfl⟩, by omega⟩
          simp [h]
          refine call_d (c_impl_placed ps[k]) rfl (by simp) ?_
          cases h5 : ps[k].placed
          · rw [h5] at hct
            have hk0 : (ps[k].kind == 0) = false := by simp only [Param.placed, Bool.or_eq_false_iff] at h5; exact h5.1
            have hk1 : (ps[k].kind == 1) = false := by simp only [Param.placed, Bool.or_eq_false_iff] at h5; exact h5.2
            simp
            refine call_d (c_impl_single ps[k]) rfl (by simp) ?_
            cases h6 : ps[k].single
            · have hop : ps[k].opn k n = false := by
                simp only [Param.single, h5, Bool.false_or] at h6
                simp [Param.opn, h6, hk1]
              rw [hop] at hnt
              simp
              have hh := next _ _ hct hnt (by simp [hk0])
              simpa using hh
            · have hop : ps[k].opn k n = true := by
                simp only [Param.single, h5, Bool.false_or] at h6
                simp [Param.opn, h6]
              rw [hop] at hnt
              cases h7 : ps[k].hasDefault
              · rw [h7] at hnt
                simp [h7]
                refine call_d (c_impl_placed ps[k]) (by simp [h7]) (by simp) ?_
                simp [h5, hk0]
                refine ⟨⟨by omega, by omega⟩, ?_⟩
                have hh := next _ _ hct hnt (by simp [hk0])
                simpa using hh
              · rw [h7] at hnt
                simp [h7]
                have hh := next _ _ hct hnt (by simp [hk0])
                simpa using hh
          · rw [h5] at hct
            have hcp := cnt_placed hok h h5
            have hps := placed_single h5
            have hk3 : (ps[k].kind == 3) = false := by
              simp only [Param.placed, Bool.or_eq_true, beq_iff_eq] at h5
              simp; omega
            rw [hcp] at hct
            simp only [if_true] at hct
            simp [wrapN _ (show cnt Param.placed (ps.take k) < 4294967296 by omega)]
            refine call_d (c_impl_single ps[k]) rfl (by simp) ?_
            simp only [hps]
            cases h7 : ps[k].hasDefault
            · simp [h7]
              refine call_d (c_impl_placed ps[k]) (by simp [h7]) (by simp) ?_
              simp only [h5]
              by_cases h8 : k < n
              · have h8' : (k : Int) + 1 ≤ n := by omega
                simp [hcp, h8']
                have hop : (ps[k].opn k n && !ps[k].hasDefault) = false := by simp [Param.opn, hk3]; intro _ hc; omega
                rw [hop] at hnt
                have hh := next _ _ hct hnt (by simp [h8])
                simpa using hh
              · have h8' : ¬ (k : Int) + 1 ≤ n := by omega
                cases h9 : ps[k].kind == 0
                · have hk1 : (ps[k].kind == 1) = true := by
                    simp only [Param.placed, h9, Bool.false_or] at h5; exact h5
                  have hop : (ps[k].opn k n && !ps[k].hasDefault) = true := by simp [Param.opn, hk3, hk1, h7]; omega
                  rw [hop] at hnt
                  simp [hcp, h8', h9]
                  refine ⟨⟨by omega, by omega⟩, ?_⟩
                  have hh := next _ _ hct hnt (by simp [h9])
                  simpa using hh
                · simp [hcp, h8', h9]
                  have hb := bad (hfail (by simp [h8, h9, h7]))
                  rw [hb]; simp
            · simp [h7]
              have hop : (ps[k].opn k n && !ps[k].hasDefault) = false := by simp [h7]
              rw [hop] at hnt
              have hh := next _ _ hct hnt (by simp [h7])
              simpa [hcp] using hh
        · have : k = ps.length := by omega
          subst this
          simp only [List.take_length] at hall hnl
          have ht : takesN ps n = true := by unfold takesN; rw [hall, h4, Bool.and_false]; rfl
          simp only [ht]
          simp
          refine scall_sort fi116.callable Tryz.slices_Sort_string Tryz.slices_Sort_string_none (l := needL n 0 ps) (by simp) (by omega) ?_
          simp
          refine scall_inline fi117 (by simp) ?_
          dsimp only [bodyOf, Tryz.f117, Option.getD]; simp
          rw [sortM_eq (needL_nodup hok n)]; rfl
      · have h4' : ¬ (0 : Int) ≤ idxOf (fun p => p.kind == 2) ps := by simpa using h4
        have ht : takesN ps n = false := by unfold takesN; rw [h1, h4]; rfl
        simp [h4', ht]
end Go.Proofs.K
/- The contracts of the program's looks at flat calls. -/
namespace Go.Proofs.K
open Go Go.Proofs Go.IntWalk

@[reducible] def vpair (p : Pair) : PV := .agg [.c (.str p.name), .c (.int .i64 p.value)]
@[reducible] def vprs (l : List Pair) : PV := vl (l.map Pair.c)
@[reducible] def vix (l : List Int) : PV := vl (l.map ix)

theorem c_impl_Pair_valid (p : Pair) (hs : Fit p.name.size) : Con Tryz.prog 166 [vpair p] (fun r ms => r = vb (pairOk p) ∧ ms = []) := by
  refine con_intro fi166 (by simp) ?_
  dsimp only [bodyOf, Tryz.f166, Option.getD]; simp
  refine call_d (c_impl_isName p.name hs) rfl (by simp) ?_
  unfold pairOk
  cases h1 : nameOk p.name
  · simp
  · simp
    refine call_d (c_impl_isValue _) rfl (by simp) ?_
    simp

theorem c_impl_pairAt (l : List Pair) (s : ByteArray) (hl : Fit l.length) : Con Tryz.prog 167 [vprs l, vs s] (fun r ms => r = vi (idxOf (fun p => decide (p.name = s)) l) ∧ ms = []) := by
  refine con_intro fi167 (by simp) ?_
  dsimp only [bodyOf, Tryz.f167, Option.getD]; simp
  refine scall_inline fi195 (by simp) ?_
  dsimp only [bodyOf, Tryz.f195, Option.getD]; simp
  refine lp [0, 1, 7, 8] (fun k : Nat => ⟨[(0, vprs l), (1, .one (.fn 196 [(0, 0)])), (7, vi l.length), (8, vi k)], [(0, .box [.c (.str s)])], 1⟩)
    (fun k => k ≤ l.length ∧ ∀ j (h : j < l.length), j < k → decide (l[j].name = s) = false) (fun k => l.length - k) 0 (by simp) (by simp) ?_
  intro k ⟨hk, hno⟩
  by_cases h : k < l.length
  · simp [h]
    refine scall_inline fi196 (by simp) ?_
    dsimp only [bodyOf, Tryz.f196, Option.getD]; simp
    cases h1 : decide (l[k].name = s)
    · simp
      exact ⟨k + 1, wrapN k (by omega), ⟨by omega, fun j hj hjk => by
        by_cases e : j = k
        · subst e; simpa using h1
        · simpa using hno j hj (by omega)⟩, by omega⟩
    · simp
      exact (idxOf_hit h h1 hno).symm
  · simp [h]
    exact (idxOf_none fun j hj => hno j hj (by omega)).symm

theorem valsOk_no {l : List Int} {k : Nat} (h : k < l.length) (hb : inR l[k] (-99) 99 = false) : valsOk l = false := by
  unfold valsOk
  rw [List.all_eq_false]
  exact ⟨l[k], List.getElem_mem _, by simp [hb]⟩
theorem valsOk_yes {l : List Int} (h : ∀ k (hk : k < l.length), inR l[k] (-99) 99 = true) : valsOk l = true := by
  unfold valsOk
  rw [List.all_eq_true]
  intro n hn
  obtain ⟨k, hk, rfl⟩ := List.getElem_of_mem hn
  exact h k hk

theorem c_impl_areValues (l : List Int) (hl : Fit l.length) : Con Tryz.prog 168 [vix l] (fun r ms => r = vb (valsOk l) ∧ ms = []) := by
  refine con_intro fi168 (by simp) ?_
  dsimp only [bodyOf, Tryz.f168, Option.getD]; simp
  refine scall_inline fi197 (by simp) ?_
  dsimp only [bodyOf, Tryz.f197, Option.getD]; simp
  refine scall_inline fi208 (by simp) ?_
  dsimp only [bodyOf, Tryz.f208, Option.getD]; simp
  refine lp [0, 1, 7, 8] (fun k : Nat => ⟨[(0, vix l), (1, .one (.fn 198 [])), (7, vi l.length), (8, vi k)], [], 0⟩)
    (fun k => k ≤ l.length ∧ ∀ j (h : j < l.length), j < k → inR l[j] (-99) 99 = true) (fun k => l.length - k) 0 (by simp) (by simp) ?_
  intro k ⟨hk, hno⟩
  by_cases h : k < l.length
  · simp [h]
    refine scall_inline fi198 (by simp) ?_
    dsimp only [bodyOf, Tryz.f198, Option.getD]; simp
    refine call_d (c_impl_isValue _) rfl (by simp) ?_
    cases h1 : inR l[k] (-99) 99
    · simp
      exact valsOk_no h h1
    · simp
      exact ⟨k + 1, wrapN k (by omega), ⟨by omega, fun j hj hjk => by
        by_cases e : j = k
        · subst e; exact h1
        · exact hno j hj (by omega)⟩, by omega⟩
  · simp [h]
    exact valsOk_yes fun j hj => hno j hj (by omega)

theorem c_impl_ValidFlat (f : Flat) (hf : FFit f) (hs : ∀ p ∈ f.names, Fit p.name.size) : Con Tryz.prog 134 [vflat f] (fun r ms => r = vb (flatOk f) ∧ ms = []) := by
  have hfp := hf.places
  have hfn := hf.names
  refine con_intro fi134 (by simp) ?_
  dsimp only [bodyOf, Tryz.f134, Option.getD]; simp
  refine lp [1, 6, 7, 8] (fun k : Nat => ⟨[(1, .one (.ptr 0 0)), (6, vprs f.names), (7, vi f.names.length), (8, vi k)], [(0, .box [.c (.lst (f.places.map ix)), .c (.lst (f.names.map Pair.c))])], 1⟩)
    (fun k => k ≤ f.names.length ∧ ∀ j (h : j < f.names.length), j < k → flatG f.names j = true) (fun k => f.names.length - k) 0 (by simp) (by simp) ?_
  intro k ⟨hk, hno⟩
  by_cases h : k < f.names.length
  · have bad : flatG f.names k = false → flatOk f = false := fun hb => by unfold flatOk; rw [namesG_no h hb]; rfl
    simp [h]
    refine dr mixed ?_
    simp [hk]
    refine DC.of (c_impl_Pair_valid f.names[k] (hs _ (by simp))) rfl (by simp) ?_
    cases h1 : pairOk f.names[k]
    · simp
      refine ⟨by kernel_rfl, ?_⟩
      exact bad (by simp [flatG, h, h1])
    · simp [hk]
      refine DC.of (c_impl_pairAt (f.names.take k) f.names[k].name (by simp; omega)) (by simp) (by simp) ?_
      generalize hi : idxOf (fun p => decide (p.name = f.names[k].name)) (f.names.take k) = fi
      cases h2 : decide (0 ≤ fi)
      · simp [h2]
        refine ⟨by kernel_rfl, ?_⟩
        exact ⟨k + 1, wrapN k (by omega), ⟨by omega, fun j hj hjk => by
          by_cases e : j = k
          · subst e
            simp [flatG, h, h1, hi, h2]
          · exact hno j hj (by omega)⟩, by omega⟩
      · simp [h2]
        refine ⟨by kernel_rfl, ?_⟩
        exact bad (by simp [flatG, h, h1, hi, h2])
  · simp [h]
    unfold flatOk
    rw [namesG_yes fun j hj => hno j hj (by omega)]
    cases h1 : decide (f.places.length ≤ 8)
    · have h1' : ¬ (f.places.length : Int) ≤ 8 := by simp at h1; omega
      simp [h1']
    · have h1' : (f.places.length : Int) ≤ 8 := by simp at h1; omega
      simp [h1']
      cases h2 : decide (f.names.length ≤ 8)
      · have h2' : ¬ (f.names.length : Int) ≤ 8 := by simp at h2; omega
        simp [h2']
      · have h2' : (f.names.length : Int) ≤ 8 := by simp at h2; omega
        simp [h2']
        refine call_d (c_impl_areValues f.places hfp) rfl (by simp) ?_
        simp

theorem c_impl_fit (ps : List Param) (f : Flat) (hp : SFit ps) (hf : FFit f) (hs : ∀ p ∈ f.names, Fit p.name.size) : Con Tryz.prog 95 [vsig ps, vflat f] (fun r ms => r = vb (sigOk ps && flatOk f) ∧ ms = []) := by
  refine con_intro fi95 (by simp) ?_
  dsimp only [bodyOf, Tryz.f95, Option.getD]; simp
  refine call_d (c_impl_ValidSignature ps hp) rfl (by simp) ?_
  cases h : sigOk ps
  · simp
  · simp
    refine call_d (c_impl_ValidFlat f hf hs) rfl (by simp) ?_
    simp

theorem c_Clip_Pair (rows : List (List C)) : Con Tryz.prog 137 [vl rows] (fun r ms => r = vl rows ∧ ms = []) := by
  refine con_intro fi137 (by simp) ?_
  dsimp only [bodyOf, Tryz.f137, Option.getD]; simp
end Go.Proofs.K
