/- For every pair of signatures the program's FirstRefused answers what the reference's answers, and shares no memory: FnExactFirstRefused returns true and leaves its arguments alone. -/
import Derived.Test.YtbaekjnfijmakaaGreatDoorKd
import Derived.Test.YtbaekjnfijmakaaGreatDoorKh
import Derived.Test.YtbaekjnfijmakaaGreatDoorKc
import Derived.Test.YtbaekjnfijmakaaGreatDoorKi
set_option linter.unnecessarySimpa false
set_option linter.unusedSimpArgs false
set_option linter.unusedVariables false
set_option maxRecDepth 20000
/- The texts with which results are marked. -/
namespace Go.Proofs.K
open Go Go.Proofs Go.IntWalk

def digs : Nat → Nat → ByteArray → ByteArray
  | 0, _, out => out
  | f + 1, k, out => if k = 0 then out else digs f (k / 10) (strOfNums [48 + (k : Int) % 10] ++ out)
def mt (k : Int) : ByteArray := if k ≤ 0 then ⟨#[109, 48]⟩ else ⟨#[109]⟩ ++ digs 20 k.toNat ⟨#[]⟩
theorem digs_zero (f : Nat) (out : ByteArray) : digs f 0 out = out := by cases f <;> simp [digs]
theorem digs_step {f k : Nat} {out : ByteArray} (h : 0 < k) : digs (f + 1) k out = digs f (k / 10) (strOfNums [48 + (k : Int) % 10] ++ out) := by
  simp only [digs]; rw [if_neg (by omega)]
def marksFrom (k : Int) (n : Nat) : List ByteArray := (List.range n).map fun (i : Nat) => mt (k + (i : Int))
end Go.Proofs.K
/- The marks of the laws. -/
namespace Go.Proofs.K
open Go Go.Proofs Go.IntWalk

theorem c_markText (k : Int) (hk : k ≤ 1000000000000000000) : Con Tryz.prog 124 [vi k] (fun r ms => r = vs (mt k) ∧ ms = []) := by
  refine con_intro fi124 (by simp) ?_
  dsimp only [bodyOf, Tryz.f124, Option.getD]; simp
  unfold mt
  by_cases h0 : k ≤ 0
  · simp [h0]
  · simp [h0]
    obtain ⟨n, rfl⟩ : ∃ n : Nat, k = n := ⟨k.toNat, by omega⟩
    have hn : n < 10 ^ 20 := by rw [show (10 : Nat) ^ 20 = 100000000000000000000 by decide]; omega
    simp only [Int.toNat_natCast]
    refine lp [0, 3] (fun x : Nat × Nat × ByteArray => ⟨[(0, vi x.2.1), (3, vs x.2.2)], [], 0⟩)
      (fun x => x.2.1 < 10 ^ x.1 ∧ x.2.2.size + x.1 ≤ 20 ∧ x.2.1 ≤ n ∧ digs 20 n ⟨#[]⟩ = digs x.1 x.2.1 x.2.2) (fun x => x.2.1) (20, n, ⟨#[]⟩) (by simp) ⟨hn, Nat.le_refl _, Nat.le_refl _, rfl⟩ ?_
    rintro ⟨f, m, out⟩ ⟨hm, hs, hmn, he⟩
    simp only at hm hs hmn he
    by_cases h : 0 < m
    · have h' : (0 : Int) < m := by omega
      cases f with
      | zero => simp at hm; omega
      | succ f =>
        have e1 : Int.tmod (m : Int) 10 = (m : Int) % 10 := Int.tmod_eq_emod_of_nonneg (by omega)
        have w1 : IntKind.i64.wrap (48 + (m : Int) % 10) = 48 + (m : Int) % 10 := i64_in _ (by omega)
        have w2 : IntKind.u8.wrap (48 + (m : Int) % 10) = 48 + (m : Int) % 10 := u8_in _ (by omega)
        have e2 : Int.tdiv (m : Int) 10 = (m : Int) / 10 := Int.tdiv_eq_ediv_of_nonneg (by omega)
        have w3 : IntKind.i64.wrap ((m : Int) / 10) = ((m / 10 : Nat) : Int) := by rw [i64_in _ (by omega)]; omega
        rw [digs_step h] at he
        have hsz : (strOfNums [48 + (m : Int) % 10]).size = 1 := by simp [strOfNums_size]
        simp [h, e1, w1, w2, e2, w3]
        generalize strOfNums [48 + (m : Int) % 10] = d at *
        have h10 : m / 10 < 10 ^ f := by rw [Nat.pow_succ] at hm; omega
        exact ⟨by omega, f, m / 10, d ++ out, ⟨rfl, rfl⟩, ⟨h10, by rw [ByteArray.size_append]; omega, by omega, he⟩, by omega⟩
    · have : m = 0 := by omega
      subst this
      simp
      rw [he, digs_zero]
      exact ⟨by show 1 + out.size ≤ _; omega, rfl⟩

/-- Marks that are still there. -/
def heldT (l : List ByteArray) (k : Int) : Bool := decide (l = marksFrom k l.length)

theorem marksFrom_get (k : Int) (n i : Nat) (h : i < n) : (marksFrom k n)[i]? = some (mt (k + i)) := by
  unfold marksFrom; simp [h]
theorem marksFrom_len (k : Int) (n : Nat) : (marksFrom k n).length = n := by simp [marksFrom]

theorem c_heldStringS (n : Nat) (k : Int) (hn : Fit n) (hk : 0 ≤ k ∧ k ≤ 4294967296) : Con Tryz.prog 83 [vtx (marksFrom k n), vi k] (fun r ms => r = vi (k + n) ∧ ms = []) := by
  have hlen := marksFrom_len k n
  refine con_intro fi83 (by simp) ?_
  dsimp only [bodyOf, Tryz.f83, Option.getD]; simp
  refine lp [0, 1, 5] (fun i : Nat => ⟨[(0, vtx (marksFrom k n)), (1, vi (k + i)), (5, vi i)], [], 0⟩) (fun i => i ≤ n) (fun i => n - i) 0 (by simp) (by simp) ?_
  intro i hi
  by_cases h : i < n
  · have hg : ((marksFrom k n).map tx)[i]? = some (tx (mt (k + i))) := by rw [List.getElem?_map, marksFrom_get k n i h]; rfl
    have hg' : ∀ (h : i < (marksFrom k n).length), (marksFrom k n)[i] = mt (k + i) := fun h' => by
      have := marksFrom_get k n i h
      rw [List.getElem?_eq_getElem h'] at this
      exact Option.some.inj this
    generalize marksFrom k n = l at *
    subst hlen
    simp [h, hg']
    refine dr mixed ?_
    simp [h]
    refine DC.of (c_markText (k + i) (by omega)) rfl (by simp) ?_
    simp [h, hg']
    refine ⟨by kernel_rfl, ?_⟩
    exact ⟨i + 1, ⟨by rw [i64_in _ (by omega)]; omega, wrapN i (by omega)⟩, by omega, by omega⟩
  · simp [h, hlen]
    omega

theorem c_eqStringS (l : List ByteArray) (hl : Fit l.length) : Con Tryz.prog 80 [vtx l, vtx l] (fun r ms => r = vb true ∧ ms = []) := by
  refine con_intro fi80 (by simp) ?_
  dsimp only [bodyOf, Tryz.f80, Option.getD]; simp
  refine lp [0, 1, 5] (fun k : Nat => ⟨[(0, vtx l), (1, vtx l), (5, vi k)], [], 0⟩) (fun k => k ≤ l.length) (fun k => l.length - k) 0 (by simp) (by simp) ?_
  intro k hk
  by_cases h : k < l.length
  · simp [h]
    refine dr mixed ?_
    simp [h]
    refine ⟨by kernel_rfl, ?_⟩
    exact ⟨k + 1, wrapN k (by omega), by omega, by omega⟩
  · simp [h]

@[reducible] def vshI (n : Int) (l : List ByteArray) : PV := .agg [.c (.int .i64 n), .c (.lst (l.map tx))]

theorem c_eqShape (n : Int) (l : List ByteArray) (hl : Fit l.length) : Con Tryz.prog 42 [vshI n l, vshI n l] (fun r ms => r = vb true ∧ ms = []) := by
  refine con_intro fi42 (by simp) ?_
  dsimp only [bodyOf, Tryz.f42, Option.getD]; simp
  refine call_d (c_eqStringS l hl) rfl (by simp) ?_
  simp

theorem c_heldShape (c : Int) (n : Nat) (k : Int) (hn : Fit n) (hk : 0 ≤ k ∧ k ≤ 4294967296) : Con Tryz.prog 45 [vshI c (marksFrom k n), vi k] (fun r ms => r = vi (k + n) ∧ ms = []) := by
  refine con_intro fi45 (by simp) ?_
  dsimp only [bodyOf, Tryz.f45, Option.getD]; simp
  refine call_d (c_heldStringS n k hn hk) rfl (by simp) ?_
  have h0 : ¬ k + (n : Int) < 0 := by omega
  simp [h0]
end Go.Proofs.K
/- Loops over a memory that is not listed: what is held in the slots is told, all else in the slots is forgotten. -/
namespace Go.Proofs.K
open Go Go.RowKit

variable {P : Program} {keep sz : Nat}

def wk (env : Env) : List (Nat × PV) → Prop
  | [] => True
  | (s, p) :: l => env s = p ∧ wk env l
@[simp] theorem wk_nil (env : Env) : wk env [] = True := rfl
@[simp] theorem wk_cons (env : Env) (s : Nat) (p : PV) (l : List (Nat × PV)) : wk env ((s, p) :: l) = (env s = p ∧ wk env l) := rfl

theorem wk_get {env : Env} : ∀ {l : List (Nat × PV)} (t : Nat), wk env l → envOf l t = .one .top ∨ envOf l t = env t
  | [], t, _ => .inl rfl
  | (s, p) :: l, t, h => by
    obtain ⟨h1, h2⟩ := h
    unfold envOf
    by_cases e : t = s
    · rw [if_pos e]; subst e; exact .inr h1.symm
    · rw [if_neg e]; exact wk_get t h2

theorem wk_sr {st : St} {l : List (Nat × PV)} {mem : Mem} {nid : Nat} (hw : wk st.env l) (hm : st.mem = mem) (hn : st.nid = nid) {g : Gs} {F X : Nat → Prop} {w : World} {a : Act} (hs : SR g F X w sz st a) :
    SR g F X w sz ⟨envOf l, mem, nid⟩ a := by
  subst hm; subst hn
  refine ⟨hs.mr, fun t => ?_, hs.fresh, hs.size, hs.defers⟩
  show VR g F w st.mem _ (envOf l t)
  rcases wk_get (env := st.env) (l := l) t hw with h | h
  · rw [h]; trivial
  · rw [h]; exact hs.env t

def endS {α : Type} (slots : α → List (Nat × PV)) (mem : α → Mem) (nid : Nat) (I : α → Prop) (μ : α → Nat) (x : α) : St → Prop :=
  fun st' => ∃ x', wk st'.env (slots x') ∧ st'.mem = mem x' ∧ st'.nid = nid ∧ I x' ∧ μ x' < μ x
@[simp] theorem endS_a {α : Type} (slots : α → List (Nat × PV)) (mem : α → Mem) (nid : Nat) (I : α → Prop) (μ : α → Nat) (x : α) (st' : St) :
    endS slots mem nid I μ x st' = ∃ x', wk st'.env (slots x') ∧ st'.mem = mem x' ∧ st'.nid = nid ∧ I x' ∧ μ x' < μ x := rfl

theorem lpS {α : Type} {body : Code} {Q : Exit → St → Prop} {st : St} (slots : α → List (Nat × PV)) (mem : α → Mem) (nid : Nat) (I : α → Prop) (μ : α → Nat) (x0 : α)
    (h0 : wk st.env (slots x0)) (hm0 : st.mem = mem x0) (hn0 : st.nid = nid) (hI : I x0)
    (round : ∀ x, I x → awp P keep sz body ⟨envOf (slots x), mem x, nid⟩ (loopK Q (endS slots mem nid I μ x))) : awp P keep sz (.loop body) st Q := by
  intro g F X w a hsr
  have := wp_loop_ghost (P := P) (c := body) (a := a) (w := w) (Q := fun e a' w' => ∃ st' g' F' X', Q e st' ∧ SR g' F' X' w' sz st' a' ∧ ExtK keep g F X w st.mem g' F' X' w' st'.mem)
    (fun n a2 w2 => ∃ y g2 F2 X2, μ y = n ∧ I y ∧ SR g2 F2 X2 w2 sz ⟨envOf (slots y), mem y, nid⟩ a2 ∧ ExtK keep g F X w st.mem g2 F2 X2 w2 (mem y)) (μ x0)
    ⟨x0, g, F, X, rfl, hI, wk_sr h0 hm0 hn0 hsr, by rw [← hm0]; exact (Ext.refl _ _ _ _ _).k⟩ ?_
  · exact this
  · rintro n a2 w2 ⟨y, g2, F2, X2, rfl, hy, hs, he⟩
    refine wp_mono (awp_sound _ _ _ (round y hy) g2 F2 X2 w2 a2 hs) ?_
    rintro e a3 w3 ⟨st3, g3, F3, X3, hQ, hs3, he3⟩
    cases e with
    | normal =>
      obtain ⟨x', hw, hm, hn, hI', hlt⟩ := hQ
      exact ⟨μ x', hlt, x', g3, F3, X3, rfl, hI', wk_sr hw hm hn hs3, by rw [← hm]; exact he.trans he3⟩
    | exit id => exact ⟨st3, g3, F3, X3, hQ, hs3, he.trans he3⟩
    | goto l => exact ⟨st3, g3, F3, X3, hQ, hs3, he.trans he3⟩
    | ret => exact ⟨st3, g3, F3, X3, hQ, hs3, he.trans he3⟩
    | panic ch => exact ⟨st3, g3, F3, X3, hQ, hs3, he.trans he3⟩
    | outgrown => exact ⟨st3, g3, F3, X3, hQ, hs3, he.trans he3⟩

attribute [simp] upd_upd
end Go.Proofs.K
/- Marks are written into own arrays. -/
namespace Go.Proofs.K
open Go Go.Proofs Go.IntWalk

theorem set_len4 {rows : List (List C)} {k : Nat} {r : List C} (h : ∀ r ∈ rows, r.length = 4) (hr : r.length = 4) : ∀ q ∈ rows.set k r, q.length = 4 := fun q hq => by
  rcases List.mem_or_eq_of_mem_set hq with h' | rfl
  · exact h q h'
  · exact hr

theorem sc_markParamS {mem : Mem} {nid id : Nat} {rows : List (List C)} {k : Int} {K : PV → Mem → Nat → Prop} (hm : mem id = .arr 4 rows) (hne : id ≠ nid) (hrow : ∀ r ∈ rows, r.length = 4) (hl : Fit rows.length) (hk : 0 ≤ k ∧ k ≤ 1099511627776)
    (hK : ∀ rows' : List (List C), rows'.length = rows.length → (∀ r ∈ rows', r.length = 4) → K (vi (k + 4 * rows.length)) (upd mem id (.arr 4 rows')) nid) :
    SCall Tryz.prog (.one (.fn 81 [])) [.one (.ms id), vi k] mem nid K := by
  refine scall_inline fi81 (by simp) ?_
  dsimp only [bodyOf, Tryz.f81, Option.getD]; simp
  refine lpS (fun x : Nat × List (List C) => [(0, .one (.ms id)), (1, vi (k + 4 * x.1)), (5, vi x.1)]) (fun x => upd mem id (.arr 4 x.2)) nid
    (fun x => x.1 ≤ rows.length ∧ x.2.length = rows.length ∧ ∀ r ∈ x.2, r.length = 4) (fun x => rows.length - x.1) (0, rows) (by simp) (by funext j; simp [upd]; intro e; subst e; exact hm) rfl ⟨by simp, rfl, hrow⟩ ?_
  rintro ⟨i, rs⟩ ⟨hi, hlen, hr⟩
  simp only at hi hlen hr
  by_cases h : i < rs.length
  · have h' : i < rows.length := by omega
    simp [h]
    refine call_d (c_markText (k + 4 * i) (by omega)) rfl (by simp) ?_
    have hri := hr rs[i] (List.getElem_mem _)
    simp [h]
    refine ⟨i + 1, ⟨?_, wrapN i (by omega)⟩, _, rfl, ⟨by omega, by simp [hlen], ?_⟩, by omega⟩
    · rw [i64_in (k + 4 * i + 1) (by omega), i64_in (k + 4 * i + 1 + 1) (by omega), i64_in (k + 4 * i + 1 + 1 + 1) (by omega), i64_in _ (by omega)]; omega
    · exact set_len4 hr (by simp [hri])
  · have hir : i = rows.length := by omega
    subst hir
    simp [hlen]
    exact hK rs hlen hr

theorem sc_markSignature {mem : Mem} {nid id : Nat} {rows : List (List C)} {k : Int} {K : PV → Mem → Nat → Prop} (hm : mem id = .arr 4 rows) (hlt : id < nid) (hrow : ∀ r ∈ rows, r.length = 4) (hl : Fit rows.length) (hk : 0 ≤ k ∧ k ≤ 1099511627776)
    (hK : ∀ rows' : List (List C), rows'.length = rows.length → K (vi (k + 4 * rows.length)) (upd (upd mem nid (.box [.ms id])) id (.arr 4 rows')) (nid + 1)) :
    SCall Tryz.prog (.one (.fn 43 [])) [.agg [.ms id], vi k] mem nid K := by
  have hne : id ≠ nid := by omega
  have hne1 : id ≠ nid + 1 := by omega
  refine scall_inline fi43 (by simp) ?_
  dsimp only [bodyOf, Tryz.f43, Option.getD]; simp
  refine sc_markParamS (rows := rows) (by simp [hne, hm]) hne1 hrow hl hk fun rows' h1 h2 => ?_
  simp
  exact hK rows' h1

theorem sc_markStringS {mem : Mem} {nid id n : Nat} {rows : List (List C)} {k : Int} {K : PV → Mem → Nat → Prop} (hm : mem id = .arr 1 rows) (hn : rows.length = n) (hne : id ≠ nid) (hrow : ∀ r ∈ rows, r.length = 1) (hl : Fit n) (hk : 0 ≤ k ∧ k ≤ 1099511627776)
    (hK : K (vi (k + n)) (upd mem id (.arr 1 ((marksFrom k n).map tx))) nid) :
    SCall Tryz.prog (.one (.fn 82 [])) [.one (.ms id), vi k] mem nid K := by
  subst hn
  refine scall_inline fi82 (by simp) ?_
  dsimp only [bodyOf, Tryz.f82, Option.getD]; simp
  refine lpS (fun x : Nat × List (List C) => [(0, .one (.ms id)), (1, vi (k + x.1)), (5, vi x.1)]) (fun x => upd mem id (.arr 1 x.2)) nid
    (fun x => x.1 ≤ rows.length ∧ x.2.length = rows.length ∧ (∀ r ∈ x.2, r.length = 1) ∧ ∀ j, j < x.1 → x.2[j]? = some (tx (mt (k + j)))) (fun x => rows.length - x.1) (0, rows) (by simp) (by funext j; simp [upd]; intro e; subst e; exact hm) rfl ⟨by simp, rfl, hrow, fun j hj => by simp at hj⟩ ?_
  rintro ⟨i, rs⟩ ⟨hi, hlen, hr, hj⟩
  simp only at hi hlen hr hj
  by_cases h : i < rs.length
  · have h' : i < rows.length := by omega
    have hri := hr rs[i] (List.getElem_mem _)
    simp [h]
    refine call_d (c_markText (k + i) (by omega)) rfl (by simp) ?_
    have ht : rs[i].tail = [] := List.eq_nil_of_length_eq_zero (by rw [List.length_tail]; omega)
    simp [h]
    rw [ht]
    refine ⟨i + 1, ⟨by rw [i64_in _ (by omega)]; omega, wrapN i (by omega)⟩, _, rfl, ⟨by omega, by simp [hlen], fun r hr' => ?_, fun j hj' => ?_⟩, by omega⟩
    · rcases List.mem_or_eq_of_mem_set hr' with h1 | rfl
      · exact hr r h1
      · rfl
    · by_cases e : j = i
      · subst e; rw [List.getElem?_set_self h]
      · rw [List.getElem?_set_ne (Ne.symm e)]; exact hj j (by omega)
  · have hir : i = rows.length := by omega
    subst hir
    have he : rs = (marksFrom k rows.length).map tx := by
      refine List.ext_getElem? fun j => ?_
      by_cases hjl : j < rows.length
      · rw [hj j hjl, List.getElem?_map, marksFrom_get k _ j hjl]; rfl
      · rw [List.getElem?_eq_none (by omega), List.getElem?_eq_none (by rw [List.length_map, marksFrom_len]; omega)]
    subst he
    simp [hlen, marksFrom_len]
    exact hK

theorem sc_markShape {mem : Mem} {nid id n : Nat} {rows : List (List C)} {k c : Int} {K : PV → Mem → Nat → Prop} (hm : mem id = .arr 1 rows) (hn : rows.length = n) (hlt : id < nid) (hrow : ∀ r ∈ rows, r.length = 1) (hl : Fit n) (hk : 0 ≤ k ∧ k ≤ 1099511627776)
    (hK : K (vi (k + n)) (upd (upd mem nid (.box [.c (.int .i64 c), .ms id])) id (.arr 1 ((marksFrom k n).map tx))) (nid + 1)) :
    SCall Tryz.prog (.one (.fn 44 [])) [.agg [.c (.int .i64 c), .ms id], vi k] mem nid K := by
  have hne : id ≠ nid := by omega
  have hne1 : id ≠ nid + 1 := by omega
  refine scall_inline fi44 (by simp) ?_
  dsimp only [bodyOf, Tryz.f44, Option.getD]; simp
  refine sc_markStringS (rows := rows) (by simp [hne, hm]) hn hne1 hrow hl hk ?_
  simp
  exact hK

/-- A shape without names is marked: nothing is written. -/
theorem sc_markShape_nil {mem : Mem} {nid : Nat} {k c : Int} {K : PV → Mem → Nat → Prop}
    (hK : K (vi k) (upd mem nid (.box [.c (.int .i64 c), .nil])) (nid + 1)) : SCall Tryz.prog (.one (.fn 44 [])) [.agg [.c (.int .i64 c), .nil], vi k] mem nid K := by
  refine scall_inline fi44 (by simp) ?_
  dsimp only [bodyOf, Tryz.f44, Option.getD]; simp
  refine scall_inline fi82 (by simp) ?_
  dsimp only [bodyOf, Tryz.f82, Option.getD]; simp
  refine lpS (fun x : Unit => [(0, .one .nil), (1, vi k), (5, vi 0)]) (fun x => upd mem nid (.box [.c (.int .i64 c), .nil])) (nid + 1) (fun _ => True) (fun _ => 0) () (by simp) rfl rfl trivial ?_
  intro _ _
  simp
  exact hK
end Go.Proofs.K
/- FnExactFirstRefused: the law returns true. -/
namespace Go.Proofs.K
open Go Go.Proofs Go.IntWalk

theorem refused_len {a b : List Param} {n : Nat} {x : Shape} (h : refusedAtS a b n = some x) : x.names.length ≤ a.length + 1 := by
  have hl := needT_len (a := a) (n := n)
  unfold refusedAtS at h
  split at h
  · cases h
  · split at h
    · cases h; exact Nat.le_trans hl (by omega)
    · split at h
      · cases h
      · split at h
        · cases h
        · cases h
          exact Nat.le_trans (sortT_len _) (by simp; omega)
theorem firstRefused_len {a b : List Param} {x : Shape} (h : firstRefusedS a b = some x) : x.names.length ≤ a.length + 1 := by
  unfold firstRefusedS at h
  split at h
  · obtain ⟨n, _, hn⟩ := List.exists_of_findSome?_eq_some h
    exact refused_len hn
  · cases h

theorem c_FnExactFirstRefused (a b : List Param) (ha : SBig a) (hb : SBig b) : Con Tryz.prog 12 [vsig a, vsig b] (fun r ms => r = vb true ∧ ms = []) := by
  refine con_intro fi12 (by simp) ?_
  dsimp only [bodyOf, Tryz.f12, Option.getD]; simp
  refine call_d (c_szSignature a 1048576 ha.len ha.names (by omega) (by omega)) rfl (by simp) ?_
  have ga := szPs_ge a 1048576
  have la := szPs_le a 1048576
  by_cases h1 : szPs a 1048576 < 0
  · simp [h1]
  · simp [h1]
    have fa := szPs_sfit (ps := a) (n := 1048576) (by omega) (by omega)
    have hal := (szPs_fit (ps := a) (n := 1048576) (by omega)).1
    generalize szPs a 1048576 = n at *
    refine call_d (c_szSignature b n hb.len hb.names (by omega) (by omega)) rfl (by simp) ?_
    have gb := szPs_ge b n
    by_cases h2 : szPs b n < 0
    · simp [h2]
    · simp [h2]
      have fb := szPs_sfit (ps := b) (n := n) (by omega) (by omega)
      have hnl : ∀ x, firstRefusedS a b = some x → x.names.length ≤ a.length + 1 := fun x hx => firstRefused_len hx
      have hS := c_spec_FirstRefused a b fa fb
      have hI := c_impl_FirstRefused a b fa fb
      generalize firstRefusedS a b = R at *
      cases R with
      | none =>
        simp only [shR_none] at hS hI
        refine dr mixed ?_
        simp
        refine DC.of (c_toSignature a fa.len) rfl (by simp) ?_
        simp
        refine DC.of (c_toSignature b fb.len) rfl (by simp) ?_
        simp
        refine DC.of hS rfl (by simp) ?_
        simp
        refine ⟨by kernel_rfl, ?_⟩
        refine call_d (c_toSignature a fa.len) rfl (by simp) ?_
        simp
        refine call_d (c_toSignature b fb.len) rfl (by simp) ?_
        simp
        refine call_d hI rfl (by simp) ?_
        simp
        refine call_d (c_eqShape 0 [] (by simp)) rfl (by simp) ?_
        simp
        refine dr mixed ?_
        simp
        refine DC.of (c_toSignature a fa.len) rfl (by simp) ?_
        simp
        refine DC.of (c_eqSignature a fa.len) rfl (by simp) ?_
        simp
        refine ⟨by kernel_rfl, ?_⟩
        refine dr mixed ?_
        simp
        refine DC.of (c_toSignature b fb.len) rfl (by simp) ?_
        simp
        refine DC.of (c_eqSignature b fb.len) rfl (by simp) ?_
        simp
        refine ⟨by kernel_rfl, ?_⟩
        refine sc_markSignature (rows := a.map Param.c) (by simp) (by simp) (by simp) (by rw [List.length_map]; exact fa.len) (by omega) (fun ra hra => ?_)
        simp
        refine sc_markSignature (rows := b.map Param.c) (by simp) (by simp) (by simp) (by rw [List.length_map]; exact fb.len) (by have := fa.len; omega) fun rb hrb => ?_
        have hk0 : ¬ 1 + 4 * (a.length : Int) + 4 * (b.length : Int) < 0 := by omega
        simp [hk0]
        refine call_d (c_eqShape 0 [] (by simp)) rfl (by simp) ?_
        simp
        refine sc_markShape_nil ?_
        simp
        refine call_d (c_heldShape 0 0 1 (by simp) (by omega)) rfl (by simp) ?_
        simp
        refine dr mixed ?_
        simp
        refine DC.of (c_toSignature a fa.len) rfl (by simp) ?_
        simp
        refine DC.of (c_toSignature b fb.len) rfl (by simp) ?_
        simp
        refine DC.of hI rfl (by simp) ?_
        simp
        refine ⟨by kernel_rfl, ?_⟩
        refine call_d (c_eqShape 0 [] (by simp)) rfl (by simp) ?_
        simp
        refine call_d (c_heldShape 0 0 1 (by simp) (by omega)) rfl (by simp) ?_
        simp
      | some x =>
        have hxl := hnl x rfl
        have hxf : Fit x.names.length := by omega
        obtain ⟨cn, names⟩ := x
        simp only at hxl hxf
        simp only [shR_some] at hS hI
        refine dr mixed ?_
        simp
        refine DC.of (c_toSignature a fa.len) rfl (by simp) ?_
        simp
        refine DC.of (c_toSignature b fb.len) rfl (by simp) ?_
        simp
        refine DC.of hS rfl (by simp) ?_
        simp
        refine ⟨by kernel_rfl, ?_⟩
        refine call_d (c_toSignature a fa.len) rfl (by simp) ?_
        simp
        refine call_d (c_toSignature b fb.len) rfl (by simp) ?_
        simp
        refine call_d hI rfl (by simp) ?_
        simp
        refine call_d (c_eqShape cn names hxf) rfl (by simp) ?_
        simp
        refine dr mixed ?_
        simp
        refine DC.of (c_toSignature a fa.len) rfl (by simp) ?_
        simp
        refine DC.of (c_eqSignature a fa.len) rfl (by simp) ?_
        simp
        refine ⟨by kernel_rfl, ?_⟩
        refine dr mixed ?_
        simp
        refine DC.of (c_toSignature b fb.len) rfl (by simp) ?_
        simp
        refine DC.of (c_eqSignature b fb.len) rfl (by simp) ?_
        simp
        refine ⟨by kernel_rfl, ?_⟩
        refine sc_markSignature (rows := a.map Param.c) (by simp) (by simp) (by simp) (by rw [List.length_map]; exact fa.len) (by omega) (fun ra hra => ?_)
        simp
        refine sc_markSignature (rows := b.map Param.c) (by simp) (by simp) (by simp) (by rw [List.length_map]; exact fb.len) (by have := fa.len; omega) fun rb hrb => ?_
        have hk0 : ¬ 1 + 4 * (a.length : Int) + 4 * (b.length : Int) < 0 := by omega
        simp [hk0]
        refine call_d (c_eqShape cn names hxf) rfl (by simp) ?_
        simp
        refine sc_markShape (rows := names.map tx) (n := names.length) (by simp) (by simp) (by simp) (by simp) hxf (by omega) ?_
        have hh0 : ¬ 1 + (names.length : Int) < 0 := by omega
        simp
        refine call_d (c_heldShape cn names.length 1 hxf (by omega)) rfl (by simp) ?_
        simp [hh0]
        refine dr mixed ?_
        simp
        refine DC.of (c_toSignature a fa.len) rfl (by simp) ?_
        simp
        refine DC.of (c_toSignature b fb.len) rfl (by simp) ?_
        simp
        refine DC.of hI rfl (by simp) ?_
        simp
        refine ⟨by kernel_rfl, ?_⟩
        refine call_d (c_eqShape cn names hxf) rfl (by simp) ?_
        simp
        refine call_d (c_heldShape cn names.length 1 hxf (by omega)) rfl (by simp) ?_
        simp [hh0]
end Go.Proofs.K
/- FnExactFirstRefused: the statement and its card. -/
namespace Go.Proofs.K
open Go Go.RowKit Go.ChangeShapes Go.WideShapes Go.ChangeAt
namespace RFnExactFirstRefused

theorem ctySig : cty Tryz.prog 4 40 = some [.lst tyParam] := by kernel_rfl
set_option maxRecDepth 100000 in
theorem contract (H : Type) (enc : TypeId × Value → H) (W : World) (base : Nat) (args : Array Value) (ds gs : List (DataW H)) (before : List MemPlace)
    (hval : ∀ (j : Nat) t v, Tryz.f12.params[j]? = some t → args[j]? = some v → Value.okWide Tryz.prog W .any base t v)
    (hW : DataW.Whole enc Tryz.prog Tryz.f12.params.toList YtbaekjnfijmakaaGreatDoor.Rows.fnExactFirstRefusedSpec.vars false W args.toList ds gs before) :
    Calls Tryz.prog 12 args W fun e W' => ∃ v, e = .returned v ∧ YtbaekjnfijmakaaGreatDoor.Rows.fnExactFirstRefusedSpec.post enc Tryz.prog Tryz.f12 false true false false W args v W' := by
  have hW' := hW
  obtain ⟨p, q, hA0, hV, rfl, hfz, hnd⟩ := hW
  have hA : DataW.TrodAll enc Tryz.prog W 0 (fun _ => true) true Tryz.f12.params.toList args.toList ds p := hA0
  rw [Tryz.params12] at hA hval
  obtain ⟨v0, vs0, d0, ds0, p0, q0, hargs, rfl, rfl, h0, r0⟩ := trodAll_cons hA
  obtain ⟨v1, vs1, d1, ds1, p1, q1, rfl, rfl, rfl, h1, r1⟩ := trodAll_cons r0
  obtain ⟨rfl, rfl, rfl⟩ := trodAll_nil r1
  obtain rfl : args = #[v0, v1] := by cases args; simp_all
  obtain ⟨rfl, rfl⟩ := trodVars_none hV
  obtain ⟨a0, ha0, fa0⟩ := open_sig Tryz.underlying40 ctySig (hval 0 40 v0 rfl rfl) h0
  obtain ⟨a1, ha1, fa1⟩ := open_sig Tryz.underlying40 ctySig (hval 1 40 v1 rfl rfl) h1
  refine (con_true (c_FnExactFirstRefused a0 a1 fa0 fa1) W [v0, v1] (vrs_cons ha0 (vrs_one ha1))).mono fun e W' ⟨he, hp⟩ => ?_
  subst he
  exact ⟨_, rfl, post_true laidOut rfl (by kernel_rfl) Tryz.underlying4 (by kernel_rfl) hW' rfl hp⟩

theorem reads (os : Os) {H : Type} (enc : TypeId × Value → H) : ∃ places, DataW.whole enc Tryz.prog ((laidWorld os).forCall (fun _ _ => 0) ⟨#[], #[.agg #[.slice none 0 0], .agg #[.slice none 0 0]], []⟩).memory Tryz.f12.params.toList YtbaekjnfijmakaaGreatDoor.Rows.fnExactFirstRefusedSpec.vars false (#[.agg #[.slice none 0 0], .agg #[.slice none 0 0]] : Array Value).toList 8 = some ([.agg [.nil], .agg [.nil]], [], places) :=
  ⟨[], by kernel_rfl⟩

set_option maxRecDepth 100000 in
theorem lifted (os : Os) (started : os.Started) (H : Type) (enc : TypeId × Value → H) (F : Stop.Interp) :
    ReturnsInHanded {} Tryz.checked os 12 .any ((OpenSpec.ofChange YtbaekjnfijmakaaGreatDoor.Rows.fnExactFirstRefusedSpec).preRow enc Tryz.prog Tryz.f12 YtbaekjnfijmakaaGreatDoor.Rows.fnExactFirstRefusedRow.domain false YtbaekjnfijmakaaGreatDoor.Rows.fnExactFirstRefusedRow.laid) (((OpenSpec.ofChange YtbaekjnfijmakaaGreatDoor.Rows.fnExactFirstRefusedSpec).at F).post enc Tryz.prog Tryz.f12 false true false false) := by
  obtain ⟨places, hx⟩ := reads os enc
  refine returnsInHanded_of_row (C := Tryz.checked) (s := OpenSpec.ofChange YtbaekjnfijmakaaGreatDoor.Rows.fnExactFirstRefusedSpec) knob started (by kernel_rfl) Tryz.func12
    (witness_row_at (enc := enc) (C := Tryz.checked) false (laidWorld os) #[.agg #[.slice none 0 0], .agg #[.slice none 0 0]] rfl (by kernel_rfl) (by kernel_rfl) (by kernel_rfl)
      (OpenSpec.preRow_of_cond 8 hx (by kernel_rfl) (fun k hk => by cases hk) (by kernel_rfl) (laid_met os _))) ?_
  intro W base args ds gs before hval hW _ _ _ _ _ _
  exact contract H enc W base args ds gs before hval hW

theorem s0 : joinedFacts YtbaekjnfijmakaaGreatDoor.Tryz.pinned.checked.prog 12 Tryz.f12 (OpenSpec.ofChange YtbaekjnfijmakaaGreatDoor.Rows.fnExactFirstRefusedSpec).bare YtbaekjnfijmakaaGreatDoor.Rows.fnExactFirstRefusedRow = true := by kernel_rfl
theorem s1 : Tryz.f12.isInstance YtbaekjnfijmakaaGreatDoor.Tryz.pinned.checked.prog YtbaekjnfijmakaaGreatDoor.Rows.fnExactFirstRefusedRow.origin YtbaekjnfijmakaaGreatDoor.Rows.fnExactFirstRefusedRow.targs := of_decide_eq_true (by kernel_rfl)
theorem s2 : Tryz.f12.isWrapper YtbaekjnfijmakaaGreatDoor.Tryz.pinned.checked.prog YtbaekjnfijmakaaGreatDoor.Rows.fnExactFirstRefusedRow.wrapper YtbaekjnfijmakaaGreatDoor.Rows.fnExactFirstRefusedRow.mainSum := by unfold Func.isWrapper; first | (rw [if_pos (by decide +kernel)]; kernel_rfl) | (rw [if_neg (by decide +kernel)]; exact ⟨rfl, rfl⟩)
theorem s3 : YtbaekjnfijmakaaGreatDoor.Tryz.pinned.checked.prog.funcNamed YtbaekjnfijmakaaGreatDoor.Rows.fnExactFirstRefusedRow.func = some 12 := by kernel_rfl
theorem s4 (os : Os) (started : os.Started) (H : Type) (enc : TypeId × Value → H) (F : Stop.Interp) : ReturnsInHanded YtbaekjnfijmakaaGreatDoor.Rows.fnExactFirstRefusedRow.assume YtbaekjnfijmakaaGreatDoor.Tryz.pinned.checked os 12 .any (YtbaekjnfijmakaaGreatDoor.Rows.fnExactFirstRefusedRow.pre enc YtbaekjnfijmakaaGreatDoor.Tryz.pinned.checked.prog Tryz.f12 (OpenSpec.ofChange YtbaekjnfijmakaaGreatDoor.Rows.fnExactFirstRefusedSpec)) (((OpenSpec.ofChange YtbaekjnfijmakaaGreatDoor.Rows.fnExactFirstRefusedSpec).at F).post enc YtbaekjnfijmakaaGreatDoor.Tryz.pinned.checked.prog Tryz.f12 YtbaekjnfijmakaaGreatDoor.Rows.fnExactFirstRefusedRow.apart YtbaekjnfijmakaaGreatDoor.Rows.fnExactFirstRefusedRow.fresh YtbaekjnfijmakaaGreatDoor.Rows.fnExactFirstRefusedRow.handsOn YtbaekjnfijmakaaGreatDoor.Rows.fnExactFirstRefusedRow.again) := by
  rw [OpenClaim.pre_eq_preRow]
  exact lifted os started H enc F

theorem said : YtbaekjnfijmakaaGreatDoor.Rows.FnExactFirstRefusedSaid :=
  OpenClaim.holds_of_cond 12 Tryz.f12 rfl rfl rfl rfl rfl rfl rfl ⟨rfl, rfl, rfl, rfl, rfl⟩ rfl rfl rfl rfl rfl s3 Tryz.func12 s0 s1 s2
    (fun os started H enc _ F => s4 os started H enc F)

theorem plain (f : FuncId) (fn : Func) (hf : YtbaekjnfijmakaaGreatDoor.Tryz.pinned.checked.prog.funcNamed "loop.example/callbinding/laws.FnExactFirstRefused" = some f) (hfn : YtbaekjnfijmakaaGreatDoor.Tryz.pinned.checked.prog.funcs[f]? = some fn) :
    false = YtbaekjnfijmakaaGreatDoor.Tryz.pinned.checked.prog.looks [] ∧ ∀ (j : Nat) t, fn.params[j]? = some t → YtbaekjnfijmakaaGreatDoor.Tryz.pinned.checked.prog.wantsStandIn t = false := by
  obtain rfl : f = 12 := Option.some.inj ((show Tryz.prog.funcNamed "loop.example/callbinding/laws.FnExactFirstRefused" = some 12 by kernel_rfl).symm.trans hf) |>.symm
  obtain rfl : fn = Tryz.f12 := (Option.some.inj (Tryz.func12.symm.trans hfn)).symm
  refine ⟨by kernel_rfl, fun j t ht => ?_⟩
  rw [Tryz.params12] at ht
  have hm : t ∈ [40, 40] := by simpa using Array.mem_of_getElem? ht
  have hall : ([40, 40].all fun u => !Tryz.prog.wantsStandIn u) = true := by kernel_rfl
  exact (show Tryz.prog.wantsStandIn t = false by simpa using List.all_eq_true.1 hall t hm)

theorem card : YtbaekjnfijmakaaGreatDoor.Rows.FnExactFirstRefusedCardSaid :=
  Claim7.holds_tied_plain_at .later [] _ _ _ _ said (fun _ h => by cases h) (by kernel_rfl) (fun _ h => by cases h) YtbaekjnfijmakaaGreatDoor.fnExactFirstRefused_row_tie rfl ⟨rfl, rfl⟩ (by kernel_rfl) rfl plain (by kernel_rfl)
end RFnExactFirstRefused
end Go.Proofs.K
namespace Go.Proofs.YtbaekjnfijmakaaGreatDoor
theorem fnExactFirstRefused_card : Rows.FnExactFirstRefusedCardSaid := K.RFnExactFirstRefused.card
#print axioms fnExactFirstRefused_card
end Go.Proofs.YtbaekjnfijmakaaGreatDoor
