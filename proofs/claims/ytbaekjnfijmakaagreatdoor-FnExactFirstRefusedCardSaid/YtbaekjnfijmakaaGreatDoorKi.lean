/- From a contract to a row; a world for the witnesses. -/
import Derived.Test.YtbaekjnfijmakaaGreatDoorKc
import Derived.Test.YtbaekjnfijmakaaGreatDoorKd
import Derived.Test.YtbaekjnfijmakaaGreatDoorChecked
import Derived.WalkKit
import Derived.ProofKit
import Derived.OpenShut
import Derived.Carry
import Derived.Deep.DeepHandedRow
import Derived.Test.YtbaekjnfijmakaaGreatDoorCards
import Derived.Test.YtbaekjnfijmakaaGreatDoorTie
set_option linter.unnecessarySimpa false
set_option linter.unusedSimpArgs false
set_option linter.unusedVariables false
/- From a contract to a row: a law of plain data that returns true. -/
namespace Go.Proofs.K
open Go Go.RowKit Go.Proofs Go.ChangeShapes Go.WideShapes Go.ChangeAt

theorem Pr.below {w w' : World} (h : Pr (· < w.heap.size) w w') : Below w.heap.size w w' := ⟨h.os, h.tape, h.output, h.size, fun k hk => h.block k hk⟩

variable {P : Program} {H : Type} {enc : TypeId × Value → H}

theorem trodAll_stay (hl : laidOutB P = true) {W W' : World} (hb : Below W.heap.size W W') : ∀ {ts : List TypeId} {vs : List Value} {ds : List (DataW H)} {ps : List MemPlace},
    (ts.all fun t => P.readableRec t && decide (t < P.types.size)) = true → DataW.TrodAll enc P W 0 (fun _ => true) true ts vs ds ps → (∀ x ∈ ps, x.block < W.heap.size) →
    DataW.TrodAll enc P W' 0 (fun b => decide (b < W.heap.size)) true ts vs ds ps
  | [], [], [], _, _, h, _ => h
  | [], [], _ :: _, _, _, h, _ => h.elim
  | [], _ :: _, _, _, _, h, _ => h.elim
  | _ :: _, [], _, _, _, h, _ => h.elim
  | _ :: _, _ :: _, [], _, _, h, _ => h.elim
  | t :: ts, v :: vs, d :: ds, ps, ht, h, hlt => by
    obtain ⟨p, q, h1, h2, rfl⟩ := h
    simp only [List.all_cons, Bool.and_eq_true, decide_eq_true_eq] at ht
    exact ⟨p, q, Below.trod hl ht.1.1 ht.1.2 h1 hb (fun x hx => hlt x (by simp [hx])), trodAll_stay hl hb ht.2 h2 (fun x hx => hlt x (by simp [hx])), rfl⟩

/-- What a law's row asks behind the call. -/
theorem post_true {f : Func} {s : ChangeSpec} {W W' : World} {args : Array Value} {ds gs : List (DataW H)} {before : List MemPlace} {tb : TypeId}
    (hl : laidOutB P = true) (hs : s.vars = []) (hrt : f.resultTypes = #[tb]) (htb : P.underlying tb = some .bool)
    (hpar : (f.params.toList.all fun t => P.readableRec t && decide (t < P.types.size)) = true)
    (hW : DataW.Whole enc P f.params.toList s.vars false W args.toList ds gs before) (hfn : s.fn H (ds ++ gs) = { results := [.lit (.bool true)], args := ds })
    (hp : Pr (· < W.heap.size) W W') : s.post enc P f false true false false W args (.bool true) W' := by
  have hW' := hW
  have hlt := hW.lt
  obtain ⟨p, q, hA, hV, rfl, hfz, hnd⟩ := hW'
  have hb := hp.below
  have hgs : gs = [] ∧ q = [] := by
    rw [hs] at hV
    cases gs with
    | nil => exact ⟨rfl, hV⟩
    | cons _ _ => exact hV.elim
  obtain ⟨rfl, rfl⟩ := hgs
  refine ⟨ds, [], p ++ [], [], p, [], hW, ?_, ?_, ?_, ?_, fun h => by cases h⟩
  · rw [hfn, hrt]
    exact ⟨[], [], ⟨1, by simp [DataW.trod, htb, Value.resultList, Value.cells]⟩, rfl, rfl⟩
  · rw [hfn]
    exact trodAll_stay hl hb hpar hA (fun x hx => hlt x (by simp [hx]))
  · rw [hfn, hs]
    exact rfl
  · refine ⟨hb.os, hb.output, fun i hi => ?_⟩
    rw [hb.block i hi]
    cases hh : W.heap[i]? with
    | none => rfl
    | some o => cases o with
      | cells c t fr => exact ⟨rfl, rfl, rfl, fun j _ => rfl⟩
      | map es clock => exact .inr ⟨rfl, rfl⟩
      | _ => rfl

theorem con_true {fid : FuncId} {args : List PV} (hcon : Con P fid args fun r ms => r = vb true ∧ ms = []) (W : World) (vs : List Value) (hv : VRs g0 (· < W.heap.size) W mem0 vs args) :
    Calls P fid vs.toArray W fun e W' => e = .returned (.bool true) ∧ Pr (· < W.heap.size) W W' := by
  refine (hcon.2 (· < W.heap.size) W vs (fun _ h => h) hv).mono ?_
  rintro e W' ⟨v, r, ms, g, F', rfl, ⟨rfl, rfl⟩, _, hr, hp, _⟩
  refine ⟨?_, hp⟩
  have h' : RepC F' W' v (.bool true) := hr
  generalize hx : C.bool true = x at h'
  cases h' <;> cases hx
  rfl

theorem vrs_one {w : World} {v : Value} {p : PV} (h : VR g0 (· < w.heap.size) w mem0 v p) : VRs g0 (· < w.heap.size) w mem0 [v] [p] :=
  ⟨rfl, fun i v' p' h1 h2 => by
    cases i with
    | zero => simp at h1 h2; subst h1; subst h2; exact h
    | succ i => simp at h1⟩
theorem vrs_cons {w : World} {v : Value} {p : PV} {vs : List Value} {ps : List PV} (h : VR g0 (· < w.heap.size) w mem0 v p) (k : VRs g0 (· < w.heap.size) w mem0 vs ps) : VRs g0 (· < w.heap.size) w mem0 (v :: vs) (p :: ps) :=
  ⟨by simp [k.1], fun i v' p' h1 h2 => by
    cases i with
    | zero => simp at h1 h2; subst h1; subst h2; exact h
    | succ i => exact k.2 i v' p' (by simpa using h1) (by simpa using h2)⟩

/-- An argument that is a struct. -/
theorem open_struct {W : World} {base b0 n : Nat} {sp : Nat → Bool} {hd : Bool} {r : Reach} {t : TypeId} {fs : Array Field} {l : List CTy} {v : Value} {d : DataW H} {ps : List MemPlace} (hu : P.underlying t = some (.struct fs)) (hc : cty P n t = some l)
    (hok : Value.okWide P W r b0 t v) (hT : DataW.Trod enc P W base sp hd t v d ps) :
    ∃ xs : List C, VR g0 (· < W.heap.size) W mem0 v (.agg (xs.map P1.c)) ∧ xs.length = l.length ∧ ∀ (i : Nat) (y : C) (ty : CTy), xs[i]? = some y → l[i]? = some ty → HasC y ty := by
  obtain ⟨fuel, hT⟩ := hT
  obtain ⟨ys, h1, h2, h3⟩ := trod_rep n t l hc fuel _ _ hT
  unfold Value.okWide at hok
  rw [hu] at hok
  obtain ⟨cs, rfl, _, _⟩ := hok
  have hcs : (Value.agg cs).cells.toList = cs.toList := rfl
  rw [hcs] at h1 h3
  have hsz : cs.size = l.length := by simpa using h1
  refine ⟨ys, ⟨cs, rfl, by simp; omega, fun i p hp => ?_⟩, h2, fun i y ty hy hty => ?_⟩
  · simp only [List.getElem?_map, Option.map_eq_some_iff] at hp
    obtain ⟨y, hy, rfl⟩ := hp
    have hi : i < ys.length := (List.getElem?_eq_some_iff.1 hy).1
    have hi' : i < cs.size := by omega
    refine ⟨cs[i], Array.getElem?_eq_getElem hi', ?_⟩
    exact (h3 i cs[i] y l[i] (by simp [hi']) hy (List.getElem?_eq_getElem (by omega))).1
  · have hi : i < ys.length := (List.getElem?_eq_some_iff.1 hy).1
    have hi' : i < cs.size := by omega
    exact (h3 i cs[i] y ty (by simp [hi']) hy hty).2

/-! ### The types of this program -/
theorem hasC_str {x : C} (h : HasC x .str) : ∃ s : ByteArray, x = .str s ∧ Big s.size := by
  cases h with | str s h => exact ⟨s, rfl, h⟩
theorem hasC_int {x : C} {k : IntKind} (h : HasC x (.int k)) : ∃ n : Int, x = .int k n ∧ (Lit.int k n).wf = true := by
  cases h with | int k n h => exact ⟨n, rfl, h⟩
theorem hasC_bool {x : C} (h : HasC x .bool) : ∃ b : Bool, x = .bool b := by
  cases h with | bool b => exact ⟨b, rfl⟩
theorem hasC_lst {x : C} {l : List CTy} (h : HasC x (.lst l)) : ∃ rows : List (List C), x = .lst rows ∧ Big rows.length ∧ (∀ r ∈ rows, r.length = l.length) ∧ ∀ r ∈ rows, ∀ (i : Nat) (x : C) (ty : CTy), r[i]? = some x → l[i]? = some ty → HasC x ty := by
  cases h with | lst rows l h0 h1 h2 => exact ⟨rows, rfl, h0, h1, h2⟩

@[reducible] def tyParam : List CTy := [.str, .int .i64, .bool, .int .i64]
theorem rows_params : ∀ (rows : List (List C)), (∀ r ∈ rows, r.length = 4) → (∀ r ∈ rows, ∀ (i : Nat) (x : C) (ty : CTy), r[i]? = some x → tyParam[i]? = some ty → HasC x ty) → ∃ ps : List Param, rows = ps.map Param.c ∧ ∀ p ∈ ps, Big p.name.size
  | [], _, _ => ⟨[], rfl, by simp⟩
  | r :: rows, h1, h2 => by
    obtain ⟨ps, rfl, hp⟩ := rows_params rows (fun r hr => h1 r (by simp [hr])) (fun r hr => h2 r (by simp [hr]))
    have hr := h2 r (by simp)
    match r, h1 r (by simp), hr with
    | [a, b, c, d], _, hr =>
      obtain ⟨s, rfl, hs⟩ := hasC_str (hr 0 a _ rfl rfl)
      obtain ⟨k, rfl, _⟩ := hasC_int (hr 1 b _ rfl rfl)
      obtain ⟨o, rfl⟩ := hasC_bool (hr 2 c _ rfl rfl)
      obtain ⟨n, rfl, _⟩ := hasC_int (hr 3 d _ rfl rfl)
      exact ⟨⟨s, k, o, n⟩ :: ps, rfl, fun p hp' => by
        rcases List.mem_cons.1 hp' with rfl | hp'
        · exact hs
        · exact hp p hp'⟩

theorem hasC_params {x : C} (h : HasC x (.lst tyParam)) : ∃ ps : List Param, x = .lst (ps.map Param.c) ∧ SBig ps := by
  obtain ⟨rows, rfl, h0, h1, h2⟩ := hasC_lst h
  obtain ⟨ps, rfl, hp⟩ := rows_params rows h1 h2
  exact ⟨ps, rfl, by simpa using h0, hp⟩

/-- An argument that is a signature. -/
theorem open_sig {W : World} {base b0 n : Nat} {sp : Nat → Bool} {hd : Bool} {r : Reach} {t : TypeId} {fs : Array Field} {v : Value} {d : DataW H} {ps : List MemPlace} (hu : P.underlying t = some (.struct fs)) (hc : cty P n t = some [.lst tyParam])
    (hok : Value.okWide P W r b0 t v) (hT : DataW.Trod enc P W base sp hd t v d ps) : ∃ s : List Param, VR g0 (· < W.heap.size) W mem0 v (vsig s) ∧ SBig s := by
  obtain ⟨xs, h1, h2, h3⟩ := open_struct hu hc hok hT
  match xs, h2, h3, h1 with
  | [x], _, h3, h1 =>
    obtain ⟨s, rfl, hs⟩ := hasC_params (h3 0 x _ rfl rfl)
    exact ⟨s, h1, hs⟩
end Go.Proofs.K
/- A world in which the listed tables hold what their text lays: for the witnesses. -/
namespace Go.Proofs.K
open Go Go.RowKit

theorem knob : ownKnob Tryz.prog.godebug = none := by kernel_rfl
theorem laidOut : laidOutB Tryz.prog = true := by kernel_rfl

def pairsZ : List Nat := [128, 191, 160, 191, 128, 159, 144, 191, 128, 143, 0, 0, 0, 0, 0, 0, 0, 0, 0, 0, 0, 0, 0, 0, 0, 0, 0, 0, 0, 0, 0, 0]
def cellsZ (l : List Nat) : Array Value := (l.map fun (n : Nat) => Value.int .u8 (Int.ofNat n)).toArray
def layZ (l : List Nat) : Obj → Obj
  | .cells _ t frozen => .cells (cellsZ l) t frozen
  | o => o
noncomputable def laidWorld (os : Os) : World :=
  { World.holding Tryz.prog os ⟨#[], #[], []⟩ with heap := ((World.holding Tryz.prog os ⟨#[], #[], []⟩).heap.modify 0 (layZ Go.Pinned.utf8FirstZ)).modify 1 (layZ pairsZ) }
theorem laid_met (os : Os) (args : Array Value) : laidMet Tryz.prog [("unicode/utf8.acceptRanges", YtbaekjnfijmakaaGreatDoor.Rows.laid_unicode_utf8_acceptRanges), ("unicode/utf8.first", YtbaekjnfijmakaaGreatDoor.Rows.laid_unicode_utf8_first)] ((laidWorld os).forCall (fun _ _ => 0) ⟨#[], args, []⟩).memory :=
  laidMet_of_run' 8 (by kernel_rfl) (by kernel_rfl)
end Go.Proofs.K
