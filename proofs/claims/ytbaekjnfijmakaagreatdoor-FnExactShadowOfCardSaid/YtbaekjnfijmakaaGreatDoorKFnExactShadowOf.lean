/- For every list of signatures and every index the program's ShadowOf answers what the reference's answers: FnExactShadowOf returns true and leaves its arguments alone. -/
import Derived.Test.YtbaekjnfijmakaaGreatDoorKh
import Derived.Test.YtbaekjnfijmakaaGreatDoorKc
import Derived.Test.YtbaekjnfijmakaaGreatDoorKi
set_option linter.unnecessarySimpa false
set_option linter.unusedSimpArgs false
set_option linter.unusedVariables false
set_option maxRecDepth 20000
/- Lists of overloads: the contracts of both ShadowOf and of the laws' sizes, copies and looks at lists of signatures. -/
namespace Go.Proofs.K
open Go Go.Proofs Go.IntWalk

@[reducible] def sigC (ps : List Param) : List C := [.lst (ps.map Param.c)]
@[reducible] def vsigs (l : List (List Param)) : PV := vl (l.map sigC)
structure LFit (l : List (List Param)) : Prop where
  len : Fit l.length
  sigs : ∀ ps ∈ l, SFit ps
def setOk (l : List (List Param)) : Bool := l.all sigOk && decide (l.length ≤ 5)
def shadowS (l : List (List Param)) (k : Nat) : Int := idxOf (fun s => fitsS (l.getD k []) s) (l.take k)
def shadowOfS (l : List (List Param)) (k : Int) : Int := if (setOk l && inR k 0 ((l.length : Int) - 1)) = true then shadowS l k.toNat else -1

theorem setOk_no {l : List (List Param)} {k : Nat} (h : k < l.length) (hb : sigOk l[k] = false) : setOk l = false := by
  unfold setOk
  have : l.all sigOk = false := by
    rw [List.all_eq_false]
    exact ⟨l[k], List.getElem_mem _, by simp [hb]⟩
  rw [this]; rfl
theorem setOk_yes {l : List (List Param)} (h : ∀ k (hk : k < l.length), sigOk l[k] = true) : setOk l = decide (l.length ≤ 5) := by
  unfold setOk
  have : l.all sigOk = true := by
    rw [List.all_eq_true]
    intro ps hps
    obtain ⟨k, hk, rfl⟩ := List.getElem_of_mem hps
    exact h k hk
  rw [this]; rfl
theorem setOk_at {l : List (List Param)} (h : setOk l = true) : l.length ≤ 5 ∧ ∀ ps ∈ l, sigOk ps = true := by
  unfold setOk at h
  simp only [Bool.and_eq_true, decide_eq_true_eq, List.all_eq_true] at h
  exact ⟨h.2, h.1⟩

theorem c_spec_validSet (l : List (List Param)) (hl : LFit l) : Con Tryz.prog 71 [vsigs l] (fun r ms => r = vb (setOk l) ∧ ms = []) := by
  have hll := hl.len
  refine con_intro fi71 (by simp) ?_
  dsimp only [bodyOf, Tryz.f71, Option.getD]; simp
  refine lp [0, 3] (fun k : Nat => ⟨[(0, vsigs l), (3, vi k)], [], 0⟩)
    (fun k => k ≤ l.length ∧ ∀ j (h : j < l.length), j < k → sigOk l[j] = true) (fun k => l.length - k) 0 (by simp) (by simp) ?_
  intro k ⟨hk, hno⟩
  by_cases h : k < l.length
  · simp [h]
    refine call_d (c_spec_validSignature l[k] (hl.sigs _ (by simp))) rfl (by simp) ?_
    cases h1 : sigOk l[k]
    · simp
      exact setOk_no h h1
    · simp
      exact ⟨k + 1, wrapN k (by omega), ⟨by omega, fun j hj hjk => by
        by_cases e : j = k
        · subst e; exact h1
        · exact hno j hj (by omega)⟩, by omega⟩
  · simp [h]
    rw [setOk_yes fun j hj => hno j hj (by omega)]
    congr 1
    simp
    omega

theorem c_spec_shadow (l : List (List Param)) (k : Nat) (hl : LFit l) (hok : setOk l = true) (hk : k < l.length) : Con Tryz.prog 73 [vsigs l, vi k] (fun r ms => r = vi (shadowS l k) ∧ ms = []) := by
  have hll := hl.len
  have hsg := (setOk_at hok).2
  refine con_intro fi73 (by simp) ?_
  dsimp only [bodyOf, Tryz.f73, Option.getD]; simp
  have hg : l.getD k [] = l[k] := by simp [hk]
  refine lp [0, 1, 5] (fun i : Nat => ⟨[(0, vsigs l), (1, vi k), (5, vi i)], [], 0⟩)
    (fun i => i ≤ k ∧ ∀ j (h : j < (l.take k).length), j < i → fitsS l[k] (l.take k)[j] = false) (fun i => k - i) 0 (by simp) (by simp) ?_
  intro i ⟨hi, hno⟩
  have htl : (l.take k).length = k := by simp; omega
  by_cases h : i < k
  · have hil : i < l.length := by omega
    have hf : fitsS l[k] l[i] = (firstRefusedS l[k] l[i]).isNone := by unfold fitsS; rw [hsg _ (List.getElem_mem _), hsg _ (List.getElem_mem _)]; simp
    simp [h]
    refine dr mixed ?_
    simp [hk, hil]
    refine DC.of (c_spec_fits l[k] l[i] (hl.sigs _ (by simp)) (hl.sigs _ (by simp))) rfl (by simp) ?_
    rw [← hf]
    cases h1 : fitsS l[k] l[i]
    · simp
      refine ⟨by kernel_rfl, ?_⟩
      exact ⟨i + 1, wrapN i (by omega), ⟨by omega, fun j hj hjk => by
        by_cases e : j = i
        · subst e; simpa using h1
        · have := hno j (by simpa using hj) (by omega)
          rw [List.getElem_take] at this
          exact this⟩, by omega⟩
    · simp
      refine ⟨by kernel_rfl, ?_⟩
      unfold shadowS
      rw [hg]
      exact (idxOf_hit (q := fun s => fitsS l[k] s) (l := l.take k) (k := i) (by omega) (by simpa using h1) hno).symm
  · simp [h]
    unfold shadowS
    rw [hg]
    exact (idxOf_none (q := fun s => fitsS l[k] s) fun j hj => hno j hj (by omega)).symm

theorem c_spec_ShadowOf (l : List (List Param)) (k : Int) (hl : LFit l) : Con Tryz.prog 35 [vsigs l, vi k] (fun r ms => r = vi (shadowOfS l k) ∧ ms = []) := by
  have hll := hl.len
  have w1 : IntKind.i64.wrap ((l.length : Int) - 1) = (l.length : Int) - 1 := i64_in _ (by omega)
  refine con_intro fi35 (by simp) ?_
  dsimp only [bodyOf, Tryz.f35, Option.getD]; simp [w1]
  refine call_d (c_spec_validSet l hl) rfl (by simp) ?_
  unfold shadowOfS
  cases hok : setOk l
  · simp
  · simp [w1]
    refine call_d (c_spec_inRange _ _ _) rfl (by simp) ?_
    cases hin : inR k 0 ((l.length : Int) - 1)
    · simp
    · simp
      unfold inR at hin
      simp only [Bool.and_eq_true, decide_eq_true_eq] at hin
      obtain ⟨n, rfl⟩ : ∃ n : Nat, k = n := ⟨k.toNat, by omega⟩
      refine call_d (c_spec_shadow l n hl hok (by omega)) rfl (by simp) ?_
      simp

theorem c_impl_overloads (l : List (List Param)) (hl : LFit l) : Con Tryz.prog 74 [vsigs l] (fun r ms => r = vb (setOk l) ∧ ms = []) := by
  have hll := hl.len
  refine con_intro fi74 (by simp) ?_
  dsimp only [bodyOf, Tryz.f74, Option.getD]; simp
  by_cases h5 : l.length ≤ 5
  · have h5' : (l.length : Int) ≤ 5 := by omega
    simp [h5']
    refine scall_inline fi118 (by simp) ?_
    dsimp only [bodyOf, Tryz.f118, Option.getD]; simp
    refine scall_inline fi75 (by simp) ?_
    dsimp only [bodyOf, Tryz.f75, Option.getD]; simp
    refine lp [0, 1, 7, 8] (fun k : Nat => ⟨[(0, vsigs l), (1, .one (.fn 119 [])), (7, vi l.length), (8, vi k)], [], 0⟩)
      (fun k => k ≤ l.length ∧ ∀ j (h : j < l.length), j < k → sigOk l[j] = true) (fun k => l.length - k) 0 (by simp) (by simp) ?_
    intro k ⟨hk, hno⟩
    by_cases h : k < l.length
    · simp [h]
      refine scall_inline fi119 (by simp) ?_
      dsimp only [bodyOf, Tryz.f119, Option.getD]; simp
      refine call_d (c_impl_ValidSignature l[k] (hl.sigs _ (by simp))) rfl (by simp) ?_
      cases h1 : sigOk l[k]
      · simp
        exact setOk_no h h1
      · simp
        exact ⟨k + 1, wrapN k (by omega), ⟨by omega, fun j hj hjk => by
          by_cases e : j = k
          · subst e; exact h1
          · exact hno j hj (by omega)⟩, by omega⟩
    · simp [h]
      rw [setOk_yes fun j hj => hno j hj (by omega)]
      simp [h5]
  · have h5' : ¬ (l.length : Int) ≤ 5 := by omega
    simp [h5']
    unfold setOk
    simp [h5]

theorem c_impl_ShadowOf (l : List (List Param)) (k : Int) (hl : LFit l) : Con Tryz.prog 37 [vsigs l, vi k] (fun r ms => r = vi (shadowOfS l k) ∧ ms = []) := by
  have hll := hl.len
  have w1 : IntKind.i64.wrap ((l.length : Int) - 1) = (l.length : Int) - 1 := i64_in _ (by omega)
  refine con_intro fi37 (by simp) ?_
  dsimp only [bodyOf, Tryz.f37, Option.getD]; simp [w1]
  refine call_d (c_impl_overloads l hl) rfl (by simp) ?_
  unfold shadowOfS
  cases hok : setOk l
  · simp
  · simp [w1]
    refine call_d (c_impl_in _ _ _) rfl (by simp) ?_
    cases hin : inR k 0 ((l.length : Int) - 1)
    · simp
    · simp
      unfold inR at hin
      simp only [Bool.and_eq_true, decide_eq_true_eq] at hin
      obtain ⟨n, rfl⟩ : ∃ n : Nat, k = n := ⟨k.toNat, by omega⟩
      have hn : n < l.length := by omega
      have hg : l.getD n [] = l[n] := by simp [hn]
      simp [hn]
      refine ⟨by omega, ?_⟩
      rw [← List.map_take]
      have htl : (l.take n).length = n := by simp; omega
      refine scall_inline fi75 (by simp) ?_
      dsimp only [bodyOf, Tryz.f75, Option.getD]; simp
      refine lp [0, 1, 7, 8] (fun i : Nat => ⟨[(0, vsigs (l.take n)), (1, .one (.fn 76 [(0, 0), (1, 0)])), (7, vi n), (8, vi i)], [(0, .box [.c (.lst (l.map sigC))]), (1, .box [.c (.int .i64 n)])], 2⟩)
        (fun i => i ≤ n ∧ ∀ j (h : j < (l.take n).length), j < i → fitsS l[n] (l.take n)[j] = false) (fun i => n - i) 0 (by simp; omega) (by simp) ?_
      intro i ⟨hi, hno⟩
      by_cases h : i < n
      · have hil : i < l.length := by omega
        simp [h, hil]
        refine ⟨by omega, ?_⟩
        refine scall_inline fi76 (by simp) ?_
        dsimp only [bodyOf, Tryz.f76, Option.getD]; simp
        refine dr mixed ?_
        simp [hn]
        refine DC.of (c_impl_Fits l[n] l[i] (hl.sigs _ (by simp)) (hl.sigs _ (by simp))) rfl (by simp) ?_
        simp
        refine ⟨by kernel_rfl, ?_⟩
        cases h1 : fitsS l[n] l[i]
        · simp
          exact ⟨i + 1, wrapN i (by omega), ⟨by omega, fun j hj hjk => by
            by_cases e : j = i
            · subst e; simpa using h1
            · have := hno j (by simpa using hj) (by omega)
              rw [List.getElem_take] at this
              exact this⟩, by omega⟩
        · simp
          unfold shadowS
          rw [hg]
          exact (idxOf_hit (q := fun s => fitsS l[n] s) (l := l.take n) (k := i) (by omega) (by simpa using h1) hno).symm
      · simp [h]
        unfold shadowS
        rw [hg]
        exact (idxOf_none (q := fun s => fitsS l[n] s) fun j hj => hno j hj (by omega)).symm
end Go.Proofs.K
/- A result's own array told as data. -/
namespace Go.Proofs.K
open Go Go.RowKit Go.Proofs

variable {P : Program}

theorem Con.data1 {fid : FuncId} {args : List PV} {s : Nat} {rows : List (List C)} (hc : Con P fid args fun r ms => r = .agg [.ms 0] ∧ ms = [(s, rows)]) :
    Con P fid args fun r ms => r = .agg [.c (.lst rows)] ∧ ms = [] := by
  refine ⟨hc.1, fun F w vs hF hv => (hc.2 F w vs hF hv).mono ?_⟩
  rintro e w' ⟨v, r, ms, g, F', he, ⟨rfl, rfl⟩, hm, hr, hpr, h1, h2, h3⟩
  have m2 : MR g F' (fun b => F' b ∨ b < w.heap.size) w' (memOf [(s, rows)]) :=
    ⟨hm.blk, hm.apart, fun i hi => ⟨fun hx => hx.elim (hm.own i hi).1 fun hlt => by have := h3 i hi; omega, (hm.own i hi).2⟩, fun b hb => .inl hb, fun b hb => hb.elim (hm.lt b) fun hlt => Nat.lt_of_lt_of_le hlt hpr.size⟩
  obtain ⟨F1, X1, m3, e3, hrep⟩ := m2.freeze (id := 0) (sz := s) (rows := rows) rfl
  obtain ⟨us, rfl, hsz, hu⟩ := hr
  obtain ⟨u, hu0, hu1⟩ := hu 0 (.ms 0) rfl
  have hu1' : u = hdr (g 0) rows.length := hu1
  refine ⟨_, _, [], g, F1, he, ⟨rfl, rfl⟩, ⟨fun _ => trivial, fun i j _ h => by simp [owns, memOf] at h, fun i h => by simp [owns, memOf] at h, fun _ h => h, fun b hb => m3.lt b (m3.sub b hb)⟩, ?_, hpr,
    fun b hb => e3.hF b (h1 b hb), fun b hb => ?_, fun k hk => by simp [owns, memOf] at hk⟩
  · refine ⟨us, rfl, hsz, fun i p hp => ?_⟩
    cases i with
    | zero =>
      simp at hp; subst hp
      refine ⟨u, hu0, ?_⟩
      rw [hu1']
      exact hrep
    | succ i => simp at hp
  · rcases e3.fr b hb with h | h
    · exact h2 b h
    · exact .inr (Nat.le_of_not_lt fun hlt => h (.inr hlt))
end Go.Proofs.K
/- The laws' sizes, copies and looks at lists of signatures; FnExactShadowOf. -/
namespace Go.Proofs.K
open Go Go.Proofs Go.IntWalk

structure LBig (l : List (List Param)) : Prop where
  len : Big l.length
  sigs : ∀ ps ∈ l, SBig ps

def szLs : List (List Param) → Int → Int
  | [], n => n
  | ps :: l, n => if szPs ps n < 0 then -1 else szLs l (szPs ps n)
def szSigs (l : List (List Param)) (n : Int) : Int := if n - l.length < 0 then -1 else szLs l (n - l.length)
theorem szLs_ge : ∀ (l : List (List Param)) (n : Int), 0 ≤ n → -1 ≤ szLs l n
  | [], n, h => by simp only [szLs]; omega
  | ps :: l, n, h => by
    simp only [szLs]
    split
    · omega
    · exact szLs_ge l _ (by omega)
theorem szSigs_ge (l : List (List Param)) (n : Int) : -1 ≤ szSigs l n := by
  unfold szSigs
  split
  · omega
  · exact szLs_ge _ _ (by omega)
theorem szLs_fit : ∀ (l : List (List Param)) (n : Int), n ≤ 1048576 → 0 ≤ szLs l n → ∀ ps ∈ l, SFit ps
  | [], _, _, _ => by simp
  | qs :: l, n, hn, h => by
    simp only [szLs] at h
    split at h
    · omega
    · rename_i h0
      intro ps hps
      rcases List.mem_cons.1 hps with rfl | hps
      · exact szPs_sfit (n := n) (by omega) hn
      · exact szLs_fit l (szPs qs n) (by have := szPs_le qs n; omega) h ps hps
theorem szSigs_lfit {l : List (List Param)} {n : Int} (hn : n ≤ 1048576) (h : 0 ≤ szSigs l n) : LFit l := by
  unfold szSigs at h
  split at h
  · omega
  · exact ⟨by omega, szLs_fit l _ (by omega) h⟩

theorem c_szSignatureS (l : List (List Param)) (n : Int) (hl : LBig l) (h0 : 0 ≤ n) (hn : n ≤ 1048576) : Con Tryz.prog 34 [vsigs l, vi n] (fun r ms => r = vi (szSigs l n) ∧ ms = []) := by
  have hll := hl.len
  have w1 : IntKind.i64.wrap (n - l.length) = n - l.length := i64_in _ (by omega)
  refine con_intro fi34 (by simp) ?_
  dsimp only [bodyOf, Tryz.f34, Option.getD]; simp [w1]
  unfold szSigs
  by_cases h : n - l.length < 0
  · simp [h]
  · simp [h]
    refine lp [0, 1, 5] (fun x : Nat × Int => ⟨[(0, vsigs l), (1, vi x.2), (5, vi x.1)], [], 0⟩)
      (fun x => x.1 ≤ l.length ∧ 0 ≤ x.2 ∧ x.2 ≤ n ∧ szLs l (n - l.length) = szLs (l.drop x.1) x.2) (fun x => l.length - x.1) (0, n - l.length) (by simp) (by simp; omega) ?_
    rintro ⟨k, m⟩ ⟨hk, hm0, hmn, he⟩
    simp only at hk hm0 hmn he
    by_cases hkl : k < l.length
    · simp [hkl]
      have hd := List.drop_eq_getElem_cons hkl
      have hsb := hl.sigs l[k] (List.getElem_mem _)
      refine call_d (c_szSignature l[k] m hsb.len hsb.names hm0 (by omega)) rfl (by simp) ?_
      rw [hd] at he
      simp only [szLs] at he
      have hle := szPs_le l[k] m
      by_cases h1 : szPs l[k] m < 0
      · rw [if_pos h1] at he
        simp [h1, he]
      · rw [if_neg h1] at he
        simp [h1]
        exact ⟨k + 1, szPs l[k] m, ⟨rfl, wrapN k (by omega)⟩, ⟨by omega, by omega, by omega, he⟩, by omega⟩
    · simp [hkl]
      rw [he, List.drop_of_length_le (by omega)]
      rfl

theorem c_toSignatureS (l : List (List Param)) (hl : LFit l) : Con Tryz.prog 36 [vsigs l] (fun r ms => r = .one (.ms 0) ∧ ms = [(1, l.map sigC)]) := by
  have hll := hl.len
  refine con_intro fi36 (by simp) ?_
  dsimp only [bodyOf, Tryz.f36, Option.getD]; simp
  refine ⟨⟨by omega, by omega⟩, ?_⟩
  refine (gzS 0 (z := [.lst []]) (by rfl) (by rfl)).aw ?_
  refine lp [0, 3, 4] (fun k : Nat => ⟨[(0, vsigs l), (3, .one (.ms 0)), (4, vi k)], [(0, .arr 1 (growR (l.map sigC) [.lst []] k))], 1⟩) (fun k => k ≤ l.length) (fun k => l.length - k) 0 (by simp [growR_zero]) (by simp) ?_
  intro k hk
  have hlen := growR_len (l.map sigC) [.lst []] k
  rw [List.length_map] at hlen
  by_cases h : k < l.length
  · have hs := growR_set (l.map sigC) [.lst []] k (by simpa using h)
    have hdr := growR_drop (l := l.map sigC) (z := [.lst []]) (k := k) (n := 1) (by simp) rfl
    have hfl := (hl.sigs l[k] (List.getElem_mem _)).len
    generalize growR (l.map sigC) [.lst []] k = rows at hs hlen hdr
    simp [h]
    refine call_c (c_toSignature l[k] hfl).data1 rfl ?_
    simp [h, hlen]
    have hd1 := hdr k (by omega)
    rw [List.drop_one] at hd1
    rw [hd1]
    exact ⟨k + 1, ⟨wrapN k (by omega), by rw [← hs]; simp⟩, by omega, by omega⟩
  · have : k = l.length := by omega
    subst this
    have ha := growR_all (l.map sigC) [.lst []] l.length (by simp)
    rw [ha]
    simp

theorem c_eqSignatureS (l : List (List Param)) (hl : LFit l) : Con Tryz.prog 38 [vsigs l, vsigs l] (fun r ms => r = vb true ∧ ms = []) := by
  have hll := hl.len
  refine con_intro fi38 (by simp) ?_
  dsimp only [bodyOf, Tryz.f38, Option.getD]; simp
  refine lp [0, 1, 5] (fun k : Nat => ⟨[(0, vsigs l), (1, vsigs l), (5, vi k)], [], 0⟩) (fun k => k ≤ l.length) (fun k => l.length - k) 0 (by simp) (by simp) ?_
  intro k hk
  by_cases h : k < l.length
  · simp [h]
    refine dr mixed ?_
    simp [h]
    refine DC.of (c_eqSignature l[k] (hl.sigs _ (by simp)).len) rfl (by simp) ?_
    simp
    refine ⟨by kernel_rfl, ?_⟩
    exact ⟨k + 1, wrapN k (by omega), by omega, by omega⟩
  · simp [h]

theorem c_FnExactShadowOf (l : List (List Param)) (k : Int) (hl : LBig l) (_ : True) : Con Tryz.prog 9 [vsigs l, vi k] (fun r ms => r = vb true ∧ ms = []) := by
  refine con_intro fi9 (by simp) ?_
  dsimp only [bodyOf, Tryz.f9, Option.getD]; simp
  refine call_d (c_szSignatureS l 1048576 hl (by omega) (by omega)) rfl (by simp) ?_
  have ga := szSigs_ge l 1048576
  by_cases h1 : szSigs l 1048576 < 0
  · simp [h1]
  · simp [h1]
    have fl := szSigs_lfit (l := l) (n := 1048576) (by omega) (by omega)
    generalize szSigs l 1048576 = n at *
    refine call_c (c_toSignatureS l fl) rfl ?_
    simp
    refine call_d (c_spec_ShadowOf l k fl) rfl (by simp) ?_
    simp
    refine call_c (c_toSignatureS l fl) rfl ?_
    simp
    refine call_d (c_impl_ShadowOf l k fl) rfl (by simp) ?_
    simp
    refine call_c (c_toSignatureS l fl) rfl ?_
    simp
    refine call_d (c_eqSignatureS l fl) rfl (by simp) ?_
    simp
end Go.Proofs.K
/- Arguments that are one cell: numbers, texts, slices. -/
namespace Go.Proofs.K
open Go Go.RowKit Go.Proofs Go.ChangeShapes Go.WideShapes Go.ChangeAt

variable {P : Program} {H : Type} {enc : TypeId × Value → H}

theorem open_cell {W : World} {base n : Nat} {sp : Nat → Bool} {hd : Bool} {t : TypeId} {ty : CTy} {v : Value} {d : DataW H} {ps : List MemPlace} (hc : cty P n t = some [ty])
    (hv : v.cells.toList = [v]) (hT : DataW.Trod enc P W base sp hd t v d ps) : ∃ x : C, VR g0 (· < W.heap.size) W mem0 v (.one (.c x)) ∧ HasC x ty := by
  obtain ⟨fuel, hT⟩ := hT
  obtain ⟨ys, h1, h2, h3⟩ := trod_rep n t [ty] hc fuel _ _ hT
  rw [hv] at h3
  match ys, h2 with
  | [y], _ =>
    have := h3 0 v y ty rfl rfl rfl
    exact ⟨y, this.1, this.2⟩

theorem one_slice {W : World} {r : Reach} {b0 : Nat} {t e : TypeId} {v : Value} (hu : P.underlying t = some (.slice e)) (hok : Value.okWide P W r b0 t v) : v.cells.toList = [v] := by
  unfold Value.okWide at hok
  rw [hu] at hok
  simp only [Cell.okWide, hu, Cell.ok] at hok
  cases v <;> simp_all [Value.cells]
theorem one_int {W : World} {r : Reach} {b0 : Nat} {t : TypeId} {k : IntKind} {v : Value} (hu : P.underlying t = some (.int k)) (hok : Value.okWide P W r b0 t v) : v.cells.toList = [v] := by
  unfold Value.okWide at hok
  rw [hu] at hok
  simp only [Cell.okWide, hu, Cell.ok] at hok
  cases v <;> simp_all [Value.cells]
theorem one_string {W : World} {r : Reach} {b0 : Nat} {t : TypeId} {v : Value} (hu : P.underlying t = some .string) (hok : Value.okWide P W r b0 t v) : v.cells.toList = [v] := by
  unfold Value.okWide at hok
  rw [hu] at hok
  simp only [Cell.okWide, hu, Cell.ok] at hok
  cases v <;> simp_all [Value.cells]

theorem open_i64 {W : World} {base b0 : Nat} {sp : Nat → Bool} {hd : Bool} {r : Reach} {t : TypeId} {v : Value} {d : DataW H} {ps : List MemPlace} (hu : P.underlying t = some (.int .i64))
    (hok : Value.okWide P W r b0 t v) (hT : DataW.Trod enc P W base sp hd t v d ps) : ∃ n : Int, VR g0 (· < W.heap.size) W mem0 v (vi n) ∧ True := by
  have hc : cty P 1 t = some [.int .i64] := by simp [cty, hu]
  obtain ⟨x, h1, h2⟩ := open_cell hc (one_int hu hok) hT
  obtain ⟨n, rfl, _⟩ := hasC_int h2
  exact ⟨n, h1, trivial⟩
end Go.Proofs.K
/- An argument that is a list of signatures. -/
namespace Go.Proofs.K
open Go Go.RowKit Go.Proofs

theorem rows_sigs : ∀ (rows : List (List C)), (∀ r ∈ rows, r.length = 1) → (∀ r ∈ rows, ∀ (i : Nat) (x : C) (ty : CTy), r[i]? = some x → [CTy.lst tyParam][i]? = some ty → HasC x ty) → ∃ l : List (List Param), rows = l.map sigC ∧ ∀ ps ∈ l, SBig ps
  | [], _, _ => ⟨[], rfl, by simp⟩
  | r :: rows, h1, h2 => by
    obtain ⟨l, rfl, hl⟩ := rows_sigs rows (fun r hr => h1 r (by simp [hr])) (fun r hr => h2 r (by simp [hr]))
    have hr := h2 r (by simp)
    match r, h1 r (by simp), hr with
    | [a], _, hr =>
      obtain ⟨ps, rfl, hps⟩ := hasC_params (hr 0 a _ rfl rfl)
      exact ⟨ps :: l, rfl, fun p hp => by
        rcases List.mem_cons.1 hp with rfl | hp
        · exact hps
        · exact hl p hp⟩

theorem open_sigs {P : Program} {H : Type} {enc : TypeId × Value → H} {W : World} {base b0 n : Nat} {sp : Nat → Bool} {hd : Bool} {r : Reach} {t e : TypeId} {v : Value} {d : DataW H} {ps : List MemPlace} (hu : P.underlying t = some (.slice e)) (hc : cty P n t = some [.lst [.lst tyParam]])
    (hok : Value.okWide P W r b0 t v) (hT : DataW.Trod enc P W base sp hd t v d ps) : ∃ l : List (List Param), VR g0 (· < W.heap.size) W mem0 v (vsigs l) ∧ LBig l := by
  obtain ⟨x, h1, h2⟩ := open_cell hc (one_slice hu hok) hT
  obtain ⟨rows, rfl, k0, k1, k2⟩ := hasC_lst h2
  obtain ⟨l, rfl, hl⟩ := rows_sigs rows k1 k2
  exact ⟨l, h1, by simpa using k0, hl⟩
end Go.Proofs.K
/- FnExactShadowOf: the statement and its card. -/
namespace Go.Proofs.K
open Go Go.RowKit Go.ChangeShapes Go.WideShapes Go.ChangeAt
namespace RFnExactShadowOf

theorem ctySigs : cty Tryz.prog 6 57 = some [.lst [.lst tyParam]] := by kernel_rfl
set_option maxRecDepth 100000 in
theorem contract (H : Type) (enc : TypeId × Value → H) (W : World) (base : Nat) (args : Array Value) (ds gs : List (DataW H)) (before : List MemPlace)
    (hval : ∀ (j : Nat) t v, Tryz.f9.params[j]? = some t → args[j]? = some v → Value.okWide Tryz.prog W .any base t v)
    (hW : DataW.Whole enc Tryz.prog Tryz.f9.params.toList YtbaekjnfijmakaaGreatDoor.Rows.fnExactShadowOfSpec.vars false W args.toList ds gs before) :
    Calls Tryz.prog 9 args W fun e W' => ∃ v, e = .returned v ∧ YtbaekjnfijmakaaGreatDoor.Rows.fnExactShadowOfSpec.post enc Tryz.prog Tryz.f9 false true false false W args v W' := by
  have hW' := hW
  obtain ⟨p, q, hA0, hV, rfl, hfz, hnd⟩ := hW
  have hA : DataW.TrodAll enc Tryz.prog W 0 (fun _ => true) true Tryz.f9.params.toList args.toList ds p := hA0
  rw [Tryz.params9] at hA hval
  obtain ⟨v0, vs0, d0, ds0, p0, q0, hargs, rfl, rfl, h0, r0⟩ := trodAll_cons hA
  obtain ⟨v1, vs1, d1, ds1, p1, q1, rfl, rfl, rfl, h1, r1⟩ := trodAll_cons r0
  obtain ⟨rfl, rfl, rfl⟩ := trodAll_nil r1
  obtain rfl : args = #[v0, v1] := by cases args; simp_all
  obtain ⟨rfl, rfl⟩ := trodVars_none hV
  obtain ⟨a0, ha0, fa0⟩ := open_sigs Tryz.underlying57 ctySigs (hval 0 57 v0 rfl rfl) h0
  obtain ⟨a1, ha1, fa1⟩ := open_i64 Tryz.underlying3 (hval 1 3 v1 rfl rfl) h1
  refine (con_true (c_FnExactShadowOf a0 a1 fa0 fa1) W [v0, v1] (vrs_cons ha0 (vrs_one ha1))).mono fun e W' ⟨he, hp⟩ => ?_
  subst he
  exact ⟨_, rfl, post_true laidOut rfl (by kernel_rfl) Tryz.underlying4 (by kernel_rfl) hW' rfl hp⟩

theorem reads (os : Os) {H : Type} (enc : TypeId × Value → H) : ∃ places, DataW.whole enc Tryz.prog ((laidWorld os).forCall (fun _ _ => 0) ⟨#[], #[.slice none 0 0, .int .i64 0], []⟩).memory Tryz.f9.params.toList YtbaekjnfijmakaaGreatDoor.Rows.fnExactShadowOfSpec.vars false (#[.slice none 0 0, .int .i64 0] : Array Value).toList 8 = some ([.nil, .lit (.int .i64 0)], [], places) :=
  ⟨[], by kernel_rfl⟩

set_option maxRecDepth 100000 in
theorem lifted (os : Os) (started : os.Started) (H : Type) (enc : TypeId × Value → H) (F : Stop.Interp) :
    ReturnsInHanded {} Tryz.checked os 9 .any ((OpenSpec.ofChange YtbaekjnfijmakaaGreatDoor.Rows.fnExactShadowOfSpec).preRow enc Tryz.prog Tryz.f9 YtbaekjnfijmakaaGreatDoor.Rows.fnExactShadowOfRow.domain false YtbaekjnfijmakaaGreatDoor.Rows.fnExactShadowOfRow.laid) (((OpenSpec.ofChange YtbaekjnfijmakaaGreatDoor.Rows.fnExactShadowOfSpec).at F).post enc Tryz.prog Tryz.f9 false true false false) := by
  obtain ⟨places, hx⟩ := reads os enc
  refine returnsInHanded_of_row (C := Tryz.checked) (s := OpenSpec.ofChange YtbaekjnfijmakaaGreatDoor.Rows.fnExactShadowOfSpec) knob started (by kernel_rfl) Tryz.func9
    (witness_row_at (enc := enc) (C := Tryz.checked) false (laidWorld os) #[.slice none 0 0, .int .i64 0] rfl (by kernel_rfl) (by kernel_rfl) (by kernel_rfl)
      (OpenSpec.preRow_of_cond 8 hx (by kernel_rfl) (fun k hk => by cases hk) (by kernel_rfl) (laid_met os _))) ?_
  intro W base args ds gs before hval hW _ _ _ _ _ _
  exact contract H enc W base args ds gs before hval hW

theorem s0 : joinedFacts YtbaekjnfijmakaaGreatDoor.Tryz.pinned.checked.prog 9 Tryz.f9 (OpenSpec.ofChange YtbaekjnfijmakaaGreatDoor.Rows.fnExactShadowOfSpec).bare YtbaekjnfijmakaaGreatDoor.Rows.fnExactShadowOfRow = true := by kernel_rfl
theorem s1 : Tryz.f9.isInstance YtbaekjnfijmakaaGreatDoor.Tryz.pinned.checked.prog YtbaekjnfijmakaaGreatDoor.Rows.fnExactShadowOfRow.origin YtbaekjnfijmakaaGreatDoor.Rows.fnExactShadowOfRow.targs := of_decide_eq_true (by kernel_rfl)
theorem s2 : Tryz.f9.isWrapper YtbaekjnfijmakaaGreatDoor.Tryz.pinned.checked.prog YtbaekjnfijmakaaGreatDoor.Rows.fnExactShadowOfRow.wrapper YtbaekjnfijmakaaGreatDoor.Rows.fnExactShadowOfRow.mainSum := by unfold Func.isWrapper; first | (rw [if_pos (by decide +kernel)]; kernel_rfl) | (rw [if_neg (by decide +kernel)]; exact ⟨rfl, rfl⟩)
theorem s3 : YtbaekjnfijmakaaGreatDoor.Tryz.pinned.checked.prog.funcNamed YtbaekjnfijmakaaGreatDoor.Rows.fnExactShadowOfRow.func = some 9 := by kernel_rfl
theorem s4 (os : Os) (started : os.Started) (H : Type) (enc : TypeId × Value → H) (F : Stop.Interp) : ReturnsInHanded YtbaekjnfijmakaaGreatDoor.Rows.fnExactShadowOfRow.assume YtbaekjnfijmakaaGreatDoor.Tryz.pinned.checked os 9 .any (YtbaekjnfijmakaaGreatDoor.Rows.fnExactShadowOfRow.pre enc YtbaekjnfijmakaaGreatDoor.Tryz.pinned.checked.prog Tryz.f9 (OpenSpec.ofChange YtbaekjnfijmakaaGreatDoor.Rows.fnExactShadowOfSpec)) (((OpenSpec.ofChange YtbaekjnfijmakaaGreatDoor.Rows.fnExactShadowOfSpec).at F).post enc YtbaekjnfijmakaaGreatDoor.Tryz.pinned.checked.prog Tryz.f9 YtbaekjnfijmakaaGreatDoor.Rows.fnExactShadowOfRow.apart YtbaekjnfijmakaaGreatDoor.Rows.fnExactShadowOfRow.fresh YtbaekjnfijmakaaGreatDoor.Rows.fnExactShadowOfRow.handsOn YtbaekjnfijmakaaGreatDoor.Rows.fnExactShadowOfRow.again) := by
  rw [OpenClaim.pre_eq_preRow]
  exact lifted os started H enc F

theorem said : YtbaekjnfijmakaaGreatDoor.Rows.FnExactShadowOfSaid :=
  OpenClaim.holds_of_cond 9 Tryz.f9 rfl rfl rfl rfl rfl rfl rfl ⟨rfl, rfl, rfl, rfl, rfl⟩ rfl rfl rfl rfl rfl s3 Tryz.func9 s0 s1 s2
    (fun os started H enc _ F => s4 os started H enc F)

theorem plain (f : FuncId) (fn : Func) (hf : YtbaekjnfijmakaaGreatDoor.Tryz.pinned.checked.prog.funcNamed "loop.example/callbinding/laws.FnExactShadowOf" = some f) (hfn : YtbaekjnfijmakaaGreatDoor.Tryz.pinned.checked.prog.funcs[f]? = some fn) :
    false = YtbaekjnfijmakaaGreatDoor.Tryz.pinned.checked.prog.looks [] ∧ ∀ (j : Nat) t, fn.params[j]? = some t → YtbaekjnfijmakaaGreatDoor.Tryz.pinned.checked.prog.wantsStandIn t = false := by
  obtain rfl : f = 9 := Option.some.inj ((show Tryz.prog.funcNamed "loop.example/callbinding/laws.FnExactShadowOf" = some 9 by kernel_rfl).symm.trans hf) |>.symm
  obtain rfl : fn = Tryz.f9 := (Option.some.inj (Tryz.func9.symm.trans hfn)).symm
  refine ⟨by kernel_rfl, fun j t ht => ?_⟩
  rw [Tryz.params9] at ht
  have hm : t ∈ [57, 3] := by simpa using Array.mem_of_getElem? ht
  have hall : ([57, 3].all fun u => !Tryz.prog.wantsStandIn u) = true := by kernel_rfl
  exact (show Tryz.prog.wantsStandIn t = false by simpa using List.all_eq_true.1 hall t hm)

theorem card : YtbaekjnfijmakaaGreatDoor.Rows.FnExactShadowOfCardSaid :=
  Claim7.holds_tied_plain_at .later [] _ _ _ _ said (fun _ h => by cases h) (by kernel_rfl) (fun _ h => by cases h) YtbaekjnfijmakaaGreatDoor.fnExactShadowOf_row_tie rfl ⟨rfl, rfl⟩ (by kernel_rfl) rfl plain (by kernel_rfl)
end RFnExactShadowOf
end Go.Proofs.K
namespace Go.Proofs.YtbaekjnfijmakaaGreatDoor
theorem fnExactShadowOf_card : Rows.FnExactShadowOfCardSaid := K.RFnExactShadowOf.card
#print axioms fnExactShadowOf_card
end Go.Proofs.YtbaekjnfijmakaaGreatDoor
