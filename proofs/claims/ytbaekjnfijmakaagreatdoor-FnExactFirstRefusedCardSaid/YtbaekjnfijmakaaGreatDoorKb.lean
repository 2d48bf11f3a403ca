/- Code is evaluated on abstract values, regions whose order is open too, and this is sound. -/
import Derived.Test.YtbaekjnfijmakaaGreatDoorKa
import Derived.Laws.BytesArg
import Derived.Deep.LoopGhost
set_option linter.unnecessarySimpa false
set_option linter.unusedSimpArgs false
set_option linter.unusedVariables false
/- One operation. -/
namespace Go.Proofs.K
open Go Go.RowKit

variable {P : Program} {g : Gs} {F X : Nat → Prop} {w : World} {mem : Mem}

def getO (env : Env) : Operand → PV
  | .tmp t => env t
  | .const v => .one (p1Of v)
  | .func f => .one (.fn f [])
  | .global _ => .one .top

def partsO (env : Env) : List (Nat × Operand) → List (Nat × PV)
  | [] => []
  | (i, x) :: ps => (i, getO env x) :: partsO env ps

def mapO (env : Env) : Option Operand → Option PV
  | none => none
  | some x => some (getO env x)

def pickV (b : Bool) : PV → PV → PV
  | .one (.c (.bool p)), .one (.c (.bool q)) => vb (bif b then p else q)
  | x, y => bif b then x else y

def capsO (env : Env) : List Operand → Option (List (Nat × Nat))
  | [] => some []
  | x :: xs => match getO env x, capsO env xs with
    | .one (.ptr id off), some cs => some ((id, off) :: cs)
    | _, _ => none

/-- A slice cut to its length: s[:len:len]. -/
def clipF (st : Option (Nat × Nat)) (mem : Mem) (nid : Nat) : PV → Option PV → Option PV → Option PV → Option (Prop × PV × List (Nat × Blk) × Nat)
  | .one (.ms id), none, some (.one (.c (.int _ h))), some (.one (.c (.int _ x))) => (match mem id with
    | .arr sz rows => some (h = rows.length ∧ x = rows.length, .one (.ms nid), [(id, .dead), (nid, .arr sz rows)], nid + 1)
    | _ => none)
  | .one .nil, none, some (.one (.c (.int _ h))), some (.one (.c (.int _ x))) => some (h = 0 ∧ x = 0, .one .nil, [], nid)
  | .one (.c (.lst rows)), none, some (.one (.c (.int _ h))), some (.one (.c (.int _ x))) => some (h = rows.length ∧ x = rows.length, .one (.c (.lst rows)), [], nid)
  | _, _, _, _ => none

def srcRows (mem : Mem) : PV → Option (List (List C))
  | .one (.c (.lst rows)) => some rows
  | .one .nil => some []
  | .one (.ms id) => match mem id with
    | .arr _ rows => some rows
    | .frz rows => some rows
    | _ => none
  | _ => none

/-- A slice of bytes as numbers. -/
def numsOf : List (List C) → Option (List Int)
  | [] => some []
  | [.int .u8 n] :: l => (match numsOf l with
    | some r => some (n :: r)
    | none => none)
  | _ => none
def tkElem : TK → Option TypeId
  | .slice e => some e
  | _ => none
/-- The text of a slice of bytes. -/
def convB (e : Option TI) (d : TI) (rows : Option (List (List C))) : Option PV :=
  match e, d.k, rows with
  | some e, .str, some (r :: l) => (match e.k, numsOf (r :: l) with
    | .int .u8, some xs => if e.ok && d.ok then some (vs (strOfNums xs)) else none
    | _, _ => none)
  | _, _, _ => none

def appF (st st2 : Option (Nat × Nat)) (mem : Mem) (nid : Nat) (x y : PV) : Option Out :=
  match st, st2, srcRows mem y with
  | some (sz, by_), some _, some rows2 => (match x with
    | .one .nil => some ⟨(∀ r ∈ rows2, r.length = sz) ∧ rows2.length ≤ 9223372036854775807 ∧ rows2.length * by_ ≤ 140737488355328, .one (.ms (nid + 1)), [(nid, .dead), (nid + 1, .arr sz rows2)], nid + 2⟩
    | .one (.ms id) => (match mem id with
      | .arr sz' rows => if sz' = sz then some ⟨(∀ r ∈ rows2, r.length = sz) ∧ rows.length + rows2.length ≤ 9223372036854775807 ∧ (rows.length + rows2.length) * by_ ≤ 140737488355328,
          .one (.ms nid), [(id, .dead), (nid, .arr sz (rows ++ rows2))], nid + 1⟩ else none
      | _ => none)
    | _ => none)
  | _, _, _ => none

def storeF (s : TI) (mem : Mem) : PV → PV → Option (Prop × List (Nat × Blk))
  | .one (.ptr id off), x => (match mem id with
    | .box cs => if (x.cells.length == s.size && decide (off + x.cells.length ≤ cs.length)) && (x.cells.all (live1 mem) && !x.cells.isEmpty) && s.ok then some (True, [(id, .box (splice cs off x.cells))]) else none
    | _ => none)
  | .one (.ep id i off), x => (match mem id with
    | .arr sz rows => (match rowC mem x.cells with
      | some ys => if (x.cells.length == s.size && okCells mem x) && ((frzL mem x.cells).all fun p => p.1 != id) && s.ok then
          some (off + x.cells.length ≤ sz, frzL mem x.cells ++ [(id, .arr sz (rows.set i (splice (rows.getD i []) off ys)))]) else none
      | none => none)
    | .arx sz rows ov => if (ovG ov i off).isSome && s.size == 1 then (match x with
        | .one q => if live1 mem q && s.ok then some (off < sz, [(id, .arx sz rows (ovS ov i off q))]) else none
        | _ => none)
      else (match rowC mem x.cells with
      | some ys => if (x.cells.length == s.size && okCells mem x) && ((frzL mem x.cells).all fun p => p.1 != id) && s.ok then
          some (off + x.cells.length ≤ sz ∧ ovF ov i off x.cells.length, frzL mem x.cells ++ [(id, .arx sz (rows.set i (splice (rows.getD i []) off ys)) ov)]) else none
      | none => none)
    | _ => none)
  | _, _ => none

/-- What an operation (no call of a Go function) does. -/
def opF (P : Program) (env : Env) (mem : Mem) (nid : Nat) (op : Op) : Option Out :=
  match op with
  | .move x | .assign x => some ⟨True, getO env x, [], nid⟩
  | .pick c a b => (match getO env c with
    | .one (.c (.bool t)) => some ⟨True, pickV t (getO env a) (getO env b), [], nid⟩
    | _ => none)
  | .alloc t => if (ti P t).ok then some ⟨True, .one (.ptr nid 0), [(nid, .box (ti P t).zero)], nid + 1⟩ else none
  | .box _ x => if okCells mem (getO env x) then some ⟨True, .one (.ptr nid 0), [(nid, .box (getO env x).cells)], nid + 1⟩ else none
  | .build t parts => (match buildF (ti P t) mem (partsO env parts.toList) with
    | some r => some ⟨True, r, [], nid⟩
    | none => none)
  | .buildSlice t len parts => (match litF (slt P t) mem nid len (partsO env parts.toList) with
    | some (r, us, n) => some ⟨True, r, us, n⟩
    | none => none)
  | .load t a => if (ti P t).plain then (match loadF (ti P t) mem (getO env a) with
    | some (φ, r) => some ⟨φ, r, [], nid⟩
    | none => none) else none
  | .store t a x => (match storeF (ti P t) mem (getO env a) (getO env x) with
    | some (φ, us) => some ⟨φ, .one .top, us, nid⟩
    | none => none)
  | .nilCheck x => (match getO env x with
    | .one (.ptr id off) => if live1 mem (.ptr id off) then some ⟨True, .one (.ptr id off), [], nid⟩ else none
    | _ => none)
  | .binOp op t x y _ => (match binF op ((ti P t).ok && tkBool (ti P t).k) ((ti P t).ok && tkSl (ti P t).k) (getO env x) (getO env y) with
    | some (φ, r) => some ⟨φ, r, [], nid⟩
    | none => none)
  | .unOp op _ x => (match unF op (getO env x) with
    | some r => some ⟨True, r, [], nid⟩
    | none => none)
  | .convert s d x => (match convF (ti P s) (ti P d) (getO env x) with
    | some r => some ⟨True, r, [], nid⟩
    | none => (match convB ((tkElem (ti P s).k).map (ti P)) (ti P d) (srcRows mem (getO env x)) with
      | some r => if (ti P s).ok then some ⟨True, r, [], nid⟩ else none
      | none => none))
  | .makeFunc (.func f) first captured => if first.isEmpty then (match capsO env captured.toList with
    | some cs => if cs.all (fun p => live1 mem (.ptr p.1 p.2)) then some ⟨True, .one (.fn f cs), [], nid⟩ else none
    | none => none) else none
  | .makeSlice t l c => (match makeF P t nid (getO env l) (getO env c) with
    | some (φ, r, us, n) => some ⟨φ, r, us, n⟩
    | none => none)
  | .slice t x lo hi none => (match sliceF (ti P t) (slt P t) mem (getO env x) (mapO env lo) (mapO env hi) with
    | some (φ, r, us) => some ⟨φ, r, us, nid⟩
    | none => (match cutF (slt P t) mem nid (getO env x) (mapO env lo) (mapO env hi) with
      | some (φ, r, us, n) => some ⟨φ, r, us, n⟩
      | none => none))
  | .slice t x lo hi (some mx) => (match clipF (slt P t) mem nid (getO env x) (mapO env lo) (mapO env hi) (some (getO env mx)) with
    | some (φ, r, us, n) => if (slt P t).isSome then some ⟨φ, r, us, n⟩ else none
    | none => none)
  | .fieldAddr s x f => if okCells mem (getO env x) then (match fieldF (ti P s) f (getO env x) with
    | some r => some ⟨True, r, [], nid⟩
    | none => none) else none
  | .indexAddr t x i => (match idxF (slt P t) mem (getO env x) (getO env i) with
    | some (φ, r) => some ⟨φ, r, [], nid⟩
    | none => none)
  | .index t x i => (match indexF (ti P t) (getO env x) (getO env i) with
    | some (φ, r) => some ⟨φ, r, [], nid⟩
    | none => none)
  | .extract x i => (match getO env x with
    | .tup xs => (match xs[i]? with
      | some (.tup _) => none
      | some r => some ⟨True, r, [], nid⟩
      | none => none)
    | _ => none)
  | .call { callee := .builtin .len, args, argTypes } => (match args.toList, argTypes.toList with
    | [x], [t] => if (ti P t).ok && tkLen (ti P t).k (getO env x) then (match lenF mem (getO env x) with
      | some n => some ⟨True, vi n, [], nid⟩
      | none => none) else none
    | _, _ => none)
  | .call { callee := .builtin .append, args, argTypes } => (match args.toList, argTypes.toList with
    | [x, y], [t, u] => (match appF (slt P t) (slt P u) mem nid (getO env x) (getO env y) with
      | some o => some o
      | none => appZ P t u nid (getO env x) (getO env y))
    | _, _ => none)
  | .call { callee := .builtin .cap, args, argTypes } => (match args.toList, argTypes.toList with
    | [x], [t] => (match capF (slt P t) (getO env x) with
      | some r => some ⟨True, r, [], nid⟩
      | none => none)
    | _, _ => none)
  | _ => none

/-- The operands stand for what the slots are known to hold. -/
def Evals (g : Gs) (F : Nat → Prop) (w : World) (mem : Mem) (ρ : Operand → Value) (env : Env) : Prop := ∀ x, VR g F w mem (ρ x) (getO env x)

/-- An operation that gives a value, or a store. -/
def OpDoes (P : Program) (ρ : Operand → Value) (o : Oper) (g : Gs) (F X : Nat → Prop) (w : World) (mem : Mem) (r : PV) (mem' : Mem) : Prop :=
  ∃ n v w', (execOp ρ o).run P w = .ok n w' ∧ (n = .value v ∨ (n = .skip ∧ v = undef)) ∧ Does g F X w mem r mem' v w'

theorem updL_other {α : Type} : ∀ (us : List (Nat × α)) (f : Nat → α) (id : Nat), (∀ p ∈ us, p.1 ≠ id) → updL f us id = f id
  | [], f, id, _ => rfl
  | (i, v) :: us, f, id, h => by
    rw [updL, updL_other us _ id (fun p hp => h p (by simp [hp])), upd_ne _ _ (Ne.symm (h (i, v) (by simp)))]

theorem frzL_keys : ∀ (ps : List P1) (mem : Mem), ∀ p ∈ frzL mem ps, ∃ sz rows, mem p.1 = .arr sz rows ∧ (P1.ms p.1) ∈ ps
  | [], mem, p, h => by simp [frzL] at h
  | q :: ps, mem, p, h => by
    cases q with
    | ms k =>
      simp only [frzL] at h
      split at h
      · rename_i sz rows hm
        rcases List.mem_cons.1 h with rfl | h
        · exact ⟨sz, rows, hm, by simp⟩
        · obtain ⟨sz', rows', h1, h2⟩ := frzL_keys ps _ p h
          by_cases e : p.1 = k
          · exact ⟨sz, rows, by rw [e]; exact hm, by simp [h2]⟩
          · rw [upd_ne _ _ e] at h1
            exact ⟨sz', rows', h1, by simp [h2]⟩
      · obtain ⟨sz, rows, h1, h2⟩ := frzL_keys ps mem p h
        exact ⟨sz, rows, h1, by simp [h2]⟩
    | _ =>
      obtain ⟨sz, rows, h1, h2⟩ := frzL_keys ps mem p h
      exact ⟨sz, rows, h1, by simp [h2]⟩

theorem partsO_get {env : Env} : ∀ (ps : List (Nat × Operand)) (k : Nat) (p : Nat × PV), (partsO env ps)[k]? = some p → ∃ q, ps[k]? = some q ∧ p = (q.1, getO env q.2)
  | [], k, p, h => by simp [partsO] at h
  | (i, x) :: ps, k, p, h => by
    cases k with
    | zero => simp [partsO] at h; exact ⟨(i, x), rfl, h.symm⟩
    | succ k => exact partsO_get ps k p (by simpa [partsO] using h)

theorem partsO_len {env : Env} : ∀ (ps : List (Nat × Operand)), (partsO env ps).length = ps.length
  | [] => rfl
  | (i, x) :: ps => by simp [partsO, partsO_len ps]

theorem src_of {v : Value} {y : PV} {rows : List (List C)} (m : MR g F X w mem) (h : srcRows mem y = some rows) (hv : VR g F w mem v y) : Src F w v rows := by
  unfold srcRows at h
  split at h
  · cases h; exact RepC.src hv
  · cases h
    have : v = .slice none 0 0 := hv
    subst this
    exact ⟨.inl ⟨rfl, _, _, rfl⟩⟩
  · rename_i id
    have hv' : V1 g F w mem v (.ms id) := hv
    simp only [V1] at hv'
    split at h
    · rename_i sz rows hm
      cases h
      rw [hm] at hv'
      simp only at hv'
      subst hv'
      exact arr_src m hm
    · rename_i rows hm
      cases h
      rw [hm] at hv'
      simp only at hv'
      subst hv'
      have := m.blk id
      rw [hm] at this
      exact RepC.src this
    · cases h
  · cases h

theorem MR.addNil {id sz : Nat} (m : MR g F X w mem) (hid : mem id = .un) :
    MR (upd g id ⟨0, 0, 0, true⟩) F X w (upd mem id (.arr sz [])) ∧ Ext g F X w mem (upd g id ⟨0, 0, 0, true⟩) F X w (upd mem id (.arr sz [])) := by
  have hgo : ∀ i, Goes g (upd g id ⟨0, 0, 0, true⟩) (mem i) (upd mem id (.arr sz []) i) i := fun i => by
    by_cases h : i = id
    · subst h; rw [hid]; trivial
    · rw [upd_ne _ _ h]; cases mem i <;> simp [Goes, upd_ne _ _ h]
  have hown : ∀ i, owns (upd g id ⟨0, 0, 0, true⟩) (upd mem id (.arr sz [])) i = true → i ≠ id ∧ owns g mem i = true := fun i h => by
    by_cases e : i = id
    · subst e; simp [owns] at h
    · exact ⟨e, by simpa [owns, upd_ne _ _ e] using h⟩
  refine ⟨⟨fun i => ?_, fun i j hij hi hj => ?_, fun i hi => ?_, m.sub, m.lt⟩, ⟨Pr.refl _ _, fun _ h => h, fun _ h => h, fun _ h => .inl h, hgo⟩⟩
  · by_cases h : i = id
    · subst h; rw [upd_same]; exact ⟨by simp, .inl ⟨by rw [upd_same], rfl⟩⟩
    · rw [upd_ne _ _ h]
      exact (m.blk i).goes (fun _ h => h) (fun _ _ => rfl) hgo (upd_ne _ _ h) (fun _ => rfl)
  · obtain ⟨h1, h2⟩ := hown i hi
    obtain ⟨k1, k2⟩ := hown j hj
    rw [upd_ne _ _ h1, upd_ne _ _ k1]
    exact m.apart i j hij h2 k2
  · obtain ⟨h1, h2⟩ := hown i hi
    rw [upd_ne _ _ h1]
    exact m.own i h2

theorem upd_upd {α : Type} (f : Nat → α) (i : Nat) (a b : α) : upd (upd f i a) i b = upd f i b := by
  funext j; by_cases h : j = i <;> simp [upd, h]

theorem slt_slice {t : TypeId} {q : Nat × Nat} (h : slt P t = some q) : ∃ e, P.underlying t = some (.slice e) := by
  obtain ⟨e, _, _, hd, _⟩ := (slt_ok (sz := q.1) (by_ := q.2) h).ex
  exact ⟨e, hd⟩

theorem appF_ok {t u ty : TypeId} {x y : PV} {o : Out} {nid : Nat} {vx vy : Value} (m : MR g F X w mem) (h : appF (slt P t) (slt P u) mem nid x y = some o) (hφ : o.φ)
    (hx : VR g F w mem vx x) (hy : VR g F w mem vy y) (hf : ∀ id, nid ≤ id → id < o.nid → mem id = .un) :
    ∃ v w', (Builtin.append_ #[t, u] ty #[vx, vy]).run P w = .ok v w' ∧ Does g F X w mem o.r (updL mem o.us) v w' := by
  unfold appF at h
  split at h
  · rename_i sz by_ q rows2 hst hst2 hsrc
    have hsy := src_of m hsrc hy
    split at h
    · cases h
      obtain ⟨h1, h2, h3⟩ := hφ
      have hx' : vx = .slice none 0 0 := hx
      subst hx'
      obtain ⟨m1, e1⟩ := m.addNil (id := nid) (sz := sz) (hf nid (Nat.le_refl _) (by simp))
      have hsy1 : Src F w vy rows2 := hsy
      have := append_run (P := P) (t := t) (u := u) (ty := ty) (id := nid) (nid := nid + 1) (sz := sz) (by_ := by_) (rows := []) (rows2 := rows2) (v2 := vy) m1 (slt_ok hst) (slt_slice hst2) (by rw [upd_same])
        (by rw [upd_ne _ _ (by omega)]; exact hf _ (by omega) (by simp)) hsy1 h1 (by simpa using h2) (by simpa using h3)
      obtain ⟨v, w', g', hrun, m2, e2, v2⟩ := this
      simp only [hdr, upd_same, if_true, List.nil_append, upd_upd] at hrun m2 e2 v2
      exact ⟨v, w', hrun, g', F, X, m2, e1.trans e2, v2⟩
    · rename_i id
      split at h
      · rename_i sz' rows hm
        split at h
        · rename_i hs
          subst hs
          cases h
          obtain ⟨h1, h2, h3⟩ := hφ
          have hx' : V1 g F w mem vx (.ms id) := hx
          simp only [V1, hm] at hx'
          subst hx'
          obtain ⟨v, w', g', hrun, m2, e2, v2⟩ := append_run (P := P) (t := t) (u := u) (ty := ty) (id := id) (nid := nid) m (slt_ok hst) (slt_slice hst2) hm (hf nid (Nat.le_refl _) (by simp)) hsy h1 h2 h3
          exact ⟨v, w', hrun, g', F, X, m2, e2, v2⟩
        · cases h
      · cases h
    · cases h
  · cases h

theorem clipF_ok {t : TypeId} {x r : PV} {hi mx : Option PV} {lo : Option PV} {φ : Prop} {us : List (Nat × Blk)} {nid nid' : Nat} {vx : Value} {vlo vhi vmx : Option Value} (m : MR g F X w mem)
    (h : clipF (slt P t) mem nid x lo hi mx = some (φ, r, us, nid')) (hst : (slt P t).isSome = true) (hφ : φ) (hx : VR g F w mem vx x) (hf : nid ≠ nid' → mem nid = .un)
    (hlo : lo = none → vlo = none) (hhi : ∀ p, hi = some p → ∃ v, vhi = some v ∧ VR g F w mem v p) (hmx : ∀ p, mx = some p → ∃ v, vmx = some v ∧ VR g F w mem v p) :
    ∃ u, (Instr.sliceAt t vx vlo vhi vmx).run P w = .ok u w ∧ Does g F X w mem r (updL mem us) u w := by
  obtain ⟨q, hq⟩ := Option.isSome_iff_exists.1 hst
  obtain ⟨e, inf, z, hd, hi', hz, hsz, hb, hzs⟩ := (slt_ok (sz := q.1) (by_ := q.2) hq).ex
  have hE : P.elem t = e := by simp [Program.elem, hd]
  have hsizeOf : (sizeOf e).run P w = .ok q.1 w := by simp [sizeOf, typeInfo, hi', hsz]
  unfold clipF at h
  split at h
  · rename_i id k hh k' xx
    obtain ⟨v1, rfl, hv1⟩ := hhi _ rfl
    obtain ⟨v2, rfl, hv2⟩ := hmx _ rfl
    have hv1' : RepC F w v1 (.int k hh) := hv1
    have hv2' : RepC F w v2 (.int k' xx) := hv2
    cases hv1'; cases hv2'
    rw [hlo rfl]
    split at h
    · rename_i sz rows hm
      simp only [Option.some.injEq, Prod.mk.injEq] at h
      obtain ⟨rfl, rfl, rfl, rfl⟩ := h
      obtain ⟨rfl, rfl⟩ := hφ
      have hx' : V1 g F w mem vx (.ms id) := hx
      simp only [V1, hm] at hx'
      have hx2 := hx'
      subst hx'
      obtain ⟨a, c, hac⟩ := (arr_rep m hm).slice
      have hcc := arr_rep m hm
      rw [hac] at hcc
      have hcap := hcc.cap
      rw [hac, run_sliceAt_slice (h := by rw [hE]; exact hd), run_slice_hm (ht := by rw [hE]; exact hd) (h0 := by omega) (h2 := by omega) (h3 := by omega), hE, hsizeOf]
      refine ⟨_, rfl, ?_⟩
      have hblk := m.blk id
      rw [hm] at hblk
      obtain ⟨m', e'⟩ := m.rename (id := id) (nid := nid) (b := .arr sz rows) (q := ⟨(g id).blk, (g id).off, rows.length, (g id).nilb⟩) (w' := w) hm (hf (by omega)) rfl rfl ⟨_, _, rfl⟩ ⟨rfl, rfl, rfl, rfl⟩ (fun _ _ => rfl)
        (fun mem' => by
          obtain ⟨h0, h1⟩ := hblk
          refine ⟨h0, ?_⟩
          rw [upd_same]
          rcases h1 with h1 | ⟨h1, h2, cells, tt, h3, h4, h5⟩
          · exact .inl h1
          · exact .inr ⟨h1, Nat.le_refl _, cells, tt, h3, by
              have : rows.length * sz ≤ (g id).cap * sz := Nat.mul_le_mul_right _ h2
              show (g id).off + rows.length * sz ≤ cells.size
              omega, h5⟩)
      refine ⟨_, F, X, m', e', ?_⟩
      show V1 _ F w _ _ (.ms nid)
      simp only [V1, updL, upd_same, hdr]
      unfold hdr at hac
      split at hac
      · rename_i hn
        injection hac with e1 e2 e3
        simp [sliced, hn, ← e1, ← e2]
      · rename_i hn
        injection hac with e1 e2 e3
        simp [sliced, hn, ← e1, Addr.add]
    · cases h
  · rename_i k hh k' xx
    obtain ⟨v1, rfl, hv1⟩ := hhi _ rfl
    obtain ⟨v2, rfl, hv2⟩ := hmx _ rfl
    have hv1' : RepC F w v1 (.int k hh) := hv1
    have hv2' : RepC F w v2 (.int k' xx) := hv2
    cases hv1'; cases hv2'
    rw [hlo rfl]
    simp only [Option.some.injEq, Prod.mk.injEq] at h
    obtain ⟨rfl, rfl, rfl, rfl⟩ := h
    obtain ⟨rfl, rfl⟩ := hφ
    have hx' : vx = .slice none 0 0 := hx
    subst hx'
    rw [run_sliceAt_slice (h := by rw [hE]; exact hd), run_slice_hm (ht := by rw [hE]; exact hd) (h0 := by omega) (h2 := by omega) (h3 := by simp), hE, hsizeOf]
    exact ⟨_, rfl, Does.same m (by simp [VR, V0, V1, sliced])⟩
  · rename_i rows k hh k' xx
    obtain ⟨v1, rfl, hv1⟩ := hhi _ rfl
    obtain ⟨v2, rfl, hv2⟩ := hmx _ rfl
    have hv1' : RepC F w v1 (.int k hh) := hv1
    have hv2' : RepC F w v2 (.int k' xx) := hv2
    cases hv1'; cases hv2'
    rw [hlo rfl]
    simp only [Option.some.injEq, Prod.mk.injEq] at h
    obtain ⟨rfl, rfl, rfl, rfl⟩ := h
    obtain ⟨rfl, rfl⟩ := hφ
    have hx' : RepC F w vx (.lst rows) := hx
    cases hx' with
    | nil a cap =>
      rw [run_sliceAt_slice (h := by rw [hE]; exact hd), run_slice_hm (ht := by rw [hE]; exact hd) (h0 := by omega) (h2 := by simp) (h3 := by simp), hE, hsizeOf]
      exact ⟨_, rfl, Does.same m (by show RepC F w _ (.lst []); simp only [sliced]; exact RepC.nil _ _)⟩
    | lst b o cap rows sz vs hF hcap hsz hc hv =>
      rw [run_sliceAt_slice (h := by rw [hE]; exact hd), run_slice_hm (ht := by rw [hE]; exact hd) (h0 := by omega) (h2 := by omega) (h3 := by omega), hE, hsizeOf]
      refine ⟨_, rfl, Does.same m ?_⟩
      show RepC F w _ (.lst rows)
      have : sliced (some ⟨b, o, none⟩) 0 ((rows.length : Int)).toNat ((rows.length : Int)).toNat q.1 = .slice (some ⟨b, o, none⟩) rows.length rows.length := by
        simp [sliced, Addr.add]
      rw [this]
      exact RepC.lst b o rows.length rows sz vs hF (Nat.le_refl _) hsz hc hv
  · cases h

end Go.Proofs.K
/- One operation does what is told of it. -/
namespace Go.Proofs.K
open Go Go.RowKit

variable {P : Program} {g : Gs} {F X : Nat → Prop} {w : World} {mem : Mem}

theorem live_lt {nid id : Nat} (hf : ∀ i, nid ≤ i → mem i = .un) (h : mem id ≠ .un) : id < nid := by
  rcases Nat.lt_or_ge id nid with h' | h'
  · exact h'
  · exact absurd (hf id h') h

theorem mapO_some {ρ : Operand → Value} {env : Env} (he : Evals g F w mem ρ env) (x : Option Operand) :
    (∀ p, mapO env x = some p → ∃ v, x.map ρ = some v ∧ VR g F w mem v p) ∧ (mapO env x = none → x.map ρ = none) := by
  cases x with
  | none => exact ⟨fun p h => (by cases h), fun _ => rfl⟩
  | some x => exact ⟨fun p h => (by cases h; exact ⟨_, rfl, he x⟩), fun h => (by cases h)⟩

theorem capsO_ok {ρ : Operand → Value} {env : Env} (he : Evals g F w mem ρ env) : ∀ (xs : List Operand) (cs : List (Nat × Nat)), capsO env xs = some cs →
    xs.length = cs.length ∧ ∀ (i : Nat) (p : Nat × Nat), cs[i]? = some p → ∃ x, xs[i]? = some x ∧ VR g F w mem (ρ x) (.one (.ptr p.1 p.2))
  | [], cs, h => by cases h; exact ⟨rfl, fun i p h => by simp at h⟩
  | x :: xs, cs, h => by
    simp only [capsO] at h
    split at h
    · rename_i id off cs' h1 h2
      cases h
      obtain ⟨k1, k2⟩ := capsO_ok he xs cs' h2
      refine ⟨by simp [k1], fun i p hp => ?_⟩
      cases i with
      | zero => simp at hp; subst hp; exact ⟨x, rfl, by have := he x; rw [h1] at this; exact this⟩
      | succ i => exact k2 i p (by simpa using hp)
    · cases h

/-- Which names an operation writes. -/
theorem opF_keys {env : Env} {nid : Nat} {out : Out} {op : Op} (hf : ∀ id, nid ≤ id → mem id = .un) (h : opF P env mem nid op = some out) :
    nid ≤ out.nid ∧ (∀ p ∈ out.us, p.1 < out.nid) ∧ ∀ id, nid ≤ id → id < out.nid → ∃ p ∈ out.us, p.1 = id := by
  have hkeys : ∀ (ps : List P1), ∀ p ∈ frzL mem ps, p.1 < nid := fun ps p hp => by
    obtain ⟨sz, rows, h1, _⟩ := frzL_keys ps mem p hp
    exact live_lt hf (by rw [h1]; simp)
  unfold opF at h
  split at h
  · cases h; exact ⟨Nat.le_refl _, by simp, fun id h1 h2 => absurd h2 (Nat.not_lt.2 h1)⟩
  · cases h; exact ⟨Nat.le_refl _, by simp, fun id h1 h2 => absurd h2 (Nat.not_lt.2 h1)⟩
  · split at h
    · cases h; exact ⟨Nat.le_refl _, by simp, fun id h1 h2 => absurd h2 (Nat.not_lt.2 h1)⟩
    · cases h
  · split at h
    · cases h; exact ⟨by simp, by simp, fun id h1 h2 => ⟨_, by simp; rfl, by simp at h2 ⊢; omega⟩⟩
    · cases h
  · split at h
    · cases h; exact ⟨by simp, by simp, fun id h1 h2 => ⟨_, by simp; rfl, by simp at h2 ⊢; omega⟩⟩
    · cases h
  · split at h
    · cases h; exact ⟨Nat.le_refl _, by simp, fun id h1 h2 => absurd h2 (Nat.not_lt.2 h1)⟩
    · cases h
  · split at h
    · rename_i r us n hr
      cases h
      have hus : ∃ ps rows sz, us = frzL mem ps ++ [(nid, .arr sz rows)] ∧ n = nid + 1 := by
        unfold litF at hr
        split at hr
        · split at hr
          · split at hr
            · simp only [Option.some.injEq, Prod.mk.injEq] at hr
              exact ⟨_, _, _, hr.2.1.symm, hr.2.2.symm⟩
            · cases hr
          · cases hr
        · cases hr
      obtain ⟨ps, rows, sz, rfl, rfl⟩ := hus
      refine ⟨by simp, fun p hp => ?_, fun id h1 h2 => ⟨(nid, .arr sz rows), by simp, by simp at h2 ⊢; omega⟩⟩
      rcases List.mem_append.1 hp with hp | hp
      · have := hkeys ps p hp; show p.1 < nid + 1; omega
      · simp at hp; subst hp; show nid < nid + 1; omega
    · cases h
  · split at h
    · split at h
      · cases h; exact ⟨Nat.le_refl _, by simp, fun id h1 h2 => absurd h2 (Nat.not_lt.2 h1)⟩
      · cases h
    · cases h
  · split at h
    · rename_i φ us hr
      cases h
      refine ⟨Nat.le_refl _, fun p hp => ?_, fun id h1 h2 => absurd h2 (Nat.not_lt.2 h1)⟩
      unfold storeF at hr
      split at hr
      · split at hr
        · rename_i cs hm
          split at hr
          · simp only [Option.some.injEq, Prod.mk.injEq] at hr
            obtain ⟨_, rfl⟩ := hr
            simp at hp; subst hp
            exact live_lt hf (by rw [hm]; simp)
          · cases hr
        · cases hr
      · split at hr
        · rename_i sz rows hm
          split at hr
          · split at hr
            · simp only [Option.some.injEq, Prod.mk.injEq] at hr
              obtain ⟨_, rfl⟩ := hr
              rcases List.mem_append.1 hp with hp | hp
              · exact hkeys _ p hp
              · simp at hp; subst hp
                exact live_lt hf (by rw [hm]; simp)
            · cases hr
          · cases hr
        · rename_i sz rows ov hm
          split at hr
          · split at hr
            · split at hr
              · simp only [Option.some.injEq, Prod.mk.injEq] at hr
                obtain ⟨_, rfl⟩ := hr
                simp at hp; subst hp
                exact live_lt hf (by rw [hm]; simp)
              · cases hr
            · cases hr
          · split at hr
            · split at hr
              · simp only [Option.some.injEq, Prod.mk.injEq] at hr
                obtain ⟨_, rfl⟩ := hr
                rcases List.mem_append.1 hp with hp | hp
                · exact hkeys _ p hp
                · simp at hp; subst hp
                  exact live_lt hf (by rw [hm]; simp)
              · cases hr
            · cases hr
        · cases hr
      · cases hr
    · cases h
  · split at h
    · split at h
      · cases h; exact ⟨Nat.le_refl _, by simp, fun id h1 h2 => absurd h2 (Nat.not_lt.2 h1)⟩
      · cases h
    · cases h
  · split at h
    · cases h; exact ⟨Nat.le_refl _, by simp, fun id h1 h2 => absurd h2 (Nat.not_lt.2 h1)⟩
    · cases h
  · split at h
    · cases h; exact ⟨Nat.le_refl _, by simp, fun id h1 h2 => absurd h2 (Nat.not_lt.2 h1)⟩
    · cases h
  · split at h
    · cases h; exact ⟨Nat.le_refl _, by simp, fun id h1 h2 => absurd h2 (Nat.not_lt.2 h1)⟩
    · split at h
      · split at h
        · cases h; exact ⟨Nat.le_refl _, by simp, fun id h1 h2 => absurd h2 (Nat.not_lt.2 h1)⟩
        · cases h
      · cases h
  · split at h
    · split at h
      · split at h
        · cases h; exact ⟨Nat.le_refl _, by simp, fun id h1 h2 => absurd h2 (Nat.not_lt.2 h1)⟩
        · cases h
      · cases h
    · cases h
  · split at h
    · rename_i φ r us n hr
      cases h
      have hus : ∃ b, us = [(nid, b)] ∧ n = nid + 1 := by
        unfold makeF at hr
        split at hr
        · split at hr
          · split at hr
            · simp only [Option.some.injEq, Prod.mk.injEq] at hr
              exact ⟨_, hr.2.2.1.symm, hr.2.2.2.symm⟩
            · cases hr
          · cases hr
        · cases hr
      obtain ⟨b, rfl, rfl⟩ := hus
      exact ⟨by simp, by simp, fun id h1 h2 => ⟨(nid, b), by simp, by simp at h2 ⊢; omega⟩⟩
    · cases h
  · split at h
    · rename_i φ r us hr
      cases h
      refine ⟨Nat.le_refl _, fun p hp => ?_, fun id h1 h2 => absurd h2 (Nat.not_lt.2 h1)⟩
      have hus : us = [] ∨ ∃ id sz rows, mem id = .arr sz rows ∧ us = [(id, .frz rows)] := by
        unfold sliceF at hr
        split at hr
        · split at hr
          · split at hr
            · split at hr
              · simp only [Option.some.injEq, Prod.mk.injEq] at hr; exact .inl hr.2.2.symm
              · cases hr
            · cases hr
          · cases hr
        · split at hr
          · simp only [Option.some.injEq, Prod.mk.injEq] at hr; exact .inl hr.2.2.symm
          · cases hr
        · split at hr
          · rename_i sz' rows hm
            split at hr
            · split at hr
              · simp only [Option.some.injEq, Prod.mk.injEq] at hr; exact .inr ⟨_, _, _, hm, hr.2.2.symm⟩
              · cases hr
            · cases hr
          · split at hr
            · simp only [Option.some.injEq, Prod.mk.injEq] at hr; exact .inl hr.2.2.symm
            · cases hr
          · cases hr
        · split at hr
          · simp only [Option.some.injEq, Prod.mk.injEq] at hr; exact .inl hr.2.2.symm
          · cases hr
        · cases hr
      rcases hus with rfl | ⟨id, sz, rows, hm, rfl⟩
      · simp at hp
      · simp at hp; subst hp; exact live_lt hf (by rw [hm]; simp)
    · split at h
      · rename_i φ r us n hr
        cases h
        have hus : ∃ id b, mem id ≠ .un ∧ us = [(id, .dead), (nid, b)] ∧ n = nid + 1 := by
          unfold cutF at hr
          split at hr
          · split at hr
            · rename_i hm
              split at hr
              · split at hr
                · simp only [Option.some.injEq, Prod.mk.injEq] at hr
                  exact ⟨_, _, by rw [hm]; simp, hr.2.2.1.symm, hr.2.2.2.symm⟩
                · cases hr
              · cases hr
            · cases hr
          · cases hr
        obtain ⟨id, b, hm, rfl, rfl⟩ := hus
        have := live_lt hf hm
        exact ⟨by simp, by simp; omega, fun id h1 h2 => ⟨(nid, b), by simp, by simp at h2 ⊢; omega⟩⟩
      · cases h
  · split at h
    · rename_i φ r us n hr
      split at h
      · cases h
        have hus : (us = [] ∧ n = nid) ∨ ∃ id sz rows, mem id = .arr sz rows ∧ us = [(id, .dead), (nid, .arr sz rows)] ∧ n = nid + 1 := by
          unfold clipF at hr
          split at hr
          · split at hr
            · rename_i hm
              simp only [Option.some.injEq, Prod.mk.injEq] at hr; exact .inr ⟨_, _, _, hm, hr.2.2.1.symm, hr.2.2.2.symm⟩
            · cases hr
          · simp only [Option.some.injEq, Prod.mk.injEq] at hr; exact .inl ⟨hr.2.2.1.symm, hr.2.2.2.symm⟩
          · simp only [Option.some.injEq, Prod.mk.injEq] at hr; exact .inl ⟨hr.2.2.1.symm, hr.2.2.2.symm⟩
          · cases hr
        rcases hus with ⟨rfl, rfl⟩ | ⟨id, sz, rows, hm, rfl, rfl⟩
        · exact ⟨Nat.le_refl _, by simp, fun id h1 h2 => absurd h2 (Nat.not_lt.2 h1)⟩
        · have := live_lt hf (id := id) (by rw [hm]; simp)
          exact ⟨by simp, by simp; omega, fun id h1 h2 => ⟨(nid, .arr sz rows), by simp, by simp at h2 ⊢; omega⟩⟩
      · cases h
    · cases h
  · split at h
    · split at h
      · cases h; exact ⟨Nat.le_refl _, by simp, fun id h1 h2 => absurd h2 (Nat.not_lt.2 h1)⟩
      · cases h
    · cases h
  · split at h
    · cases h; exact ⟨Nat.le_refl _, by simp, fun id h1 h2 => absurd h2 (Nat.not_lt.2 h1)⟩
    · cases h
  · split at h
    · cases h; exact ⟨Nat.le_refl _, by simp, fun id h1 h2 => absurd h2 (Nat.not_lt.2 h1)⟩
    · cases h
  · split at h
    · split at h
      · cases h
      · cases h; exact ⟨Nat.le_refl _, by simp, fun id h1 h2 => absurd h2 (Nat.not_lt.2 h1)⟩
      · cases h
    · cases h
  · split at h
    · split at h
      · split at h
        · cases h; exact ⟨Nat.le_refl _, by simp, fun id h1 h2 => absurd h2 (Nat.not_lt.2 h1)⟩
        · cases h
      · cases h
    · cases h
  · split at h
    · split at h
      · rename_i o happ
        cases h
        have h := happ
        unfold appF at h
        split at h
        · split at h
          · cases h
            refine ⟨by simp, by simp, fun id h1 h2 => ?_⟩
            simp at h2
            by_cases e : id = nid
            · exact ⟨(nid, .dead), by simp, e.symm⟩
            · exact ⟨(nid + 1, _), by simp; rfl, by simp; omega⟩
          · split at h
            · rename_i sz' rows hm
              split at h
              · cases h
                have := live_lt hf (by rw [hm]; simp)
                exact ⟨by simp, by simp; omega, fun id h1 h2 => ⟨_, List.mem_cons_of_mem _ (List.mem_cons_self ..), by simp at h2 ⊢; omega⟩⟩
              · cases h
            · cases h
          · cases h
        · cases h
      · unfold appZ at h
        split at h
        · split at h
          · split at h
            · cases h
              exact ⟨by simp, by simp, fun id h1 h2 => ⟨_, List.mem_cons_self .., by simp at h2 ⊢; omega⟩⟩
            · cases h
          · cases h
        · cases h
    · cases h
  · split at h
    · split at h
      · cases h; exact ⟨Nat.le_refl _, by simp, fun id h1 h2 => absurd h2 (Nat.not_lt.2 h1)⟩
      · cases h
    · cases h
  · cases h

/-- The conclusion for an operation. -/
def OpOk (P : Program) (ρ : Operand → Value) (o : Oper) (g : Gs) (F X : Nat → Prop) (w : World) (mem : Mem) (nid : Nat) (out : Out) : Prop :=
  OpDoes P ρ o g F X w mem out.r (updL mem out.us)

theorem OpOk.value {ρ : Operand → Value} {o : Oper} {nid : Nat} {out : Out} {v : Value} {w' : World} (h : (execOp ρ o).run P w = .ok (.value v) w')
    (hd : Does g F X w mem out.r (updL mem out.us) v w') : OpOk P ρ o g F X w mem nid out :=
  ⟨_, v, w', h, .inl rfl, hd⟩

theorem numsOf_get : ∀ {rows : List (List C)} {xs : List Int}, numsOf rows = some xs → xs.length = rows.length ∧ ∀ i r, rows[i]? = some r → r = [C.int .u8 (xs.getD i 0)]
  | [], xs, h => by simp [numsOf] at h; subst h; exact ⟨rfl, fun i r h => by simp at h⟩
  | r :: l, xs, h => by
    unfold numsOf at h
    split at h
    · rename_i e; cases e
    · rename_i n l' e
      cases e
      split at h
      · rename_i ys hy
        cases h
        obtain ⟨h1, h2⟩ := numsOf_get hy
        refine ⟨by simp [h1], fun i r hr => ?_⟩
        cases i with
        | zero => simp at hr; subst hr; rfl
        | succ i => have := h2 i r (by simpa using hr); simpa using this
      · cases h
    · cases h

theorem convB_ok {s d : TypeId} {px r : PV} {vx : Value} (m : MR g F X w mem) (hs : (ti P s).ok = true) (h : convB ((tkElem (ti P s).k).map (ti P)) (ti P d) (srcRows mem px) = some r) (hx : VR g F w mem vx px) :
    ∃ u, (convert s d vx).run P w = .ok u w ∧ VR g F w mem u r := by
  unfold convB at h
  split at h
  · rename_i e rr l he hd hrows
    split at h
    · rename_i xs hk hn
      split at h
      · rename_i hok
        cases h
        simp only [Bool.and_eq_true] at hok
        rw [Option.map_eq_some_iff] at he
        obtain ⟨t, ht, rfl⟩ := he
        obtain ⟨ds, hs1, hs2⟩ := ti_und hs
        have hsl : ds = .slice t := by
          cases hk2 : (ti P s).k <;> rw [hk2] at ht <;> simp [tkElem] at ht
          subst ht
          rw [hs2] at hk2
          exact tkOf_slice hk2
        subst hsl
        obtain ⟨de, he1, he2⟩ := ti_und hok.1
        rw [he2] at hk
        have := tkOf_int hk
        subst this
        obtain ⟨dd, hd1, hd2⟩ := ti_und hok.2
        rw [hd2] at hd
        have := tkOf_str hd
        subst this
        obtain ⟨h1, h2⟩ := numsOf_get hn
        rcases (src_of m hrows hx).is with ⟨h0, _⟩ | ⟨b, o, cap, sz, vr, rfl, hr, hc⟩
        · cases h0
        · refine ⟨_, run_convert_bytes_arg w s t hs1 he1 b o _ cap xs h1 (fun i hi => ?_) d hd1, RepC.str _⟩
          have hri : (rr :: l)[i]? = some (rr :: l)[i] := List.getElem?_eq_getElem hi
          have hrow := h2 i _ hri
          have hsz1 : sz = 1 := by
            rw [← hr.rsz _ (List.mem_of_getElem? hri), hrow]; rfl
          subst hsz1
          have hvl : i < vr.length := by rw [hr.len]; exact hi
          have hvr := hr.vsz vr[i] (List.getElem_mem _)
          match hv : vr[i], hvr with
          | [v], _ =>
            have hf := flat_get 1 vr hr.vsz i 0 [v] (by rw [List.getElem?_eq_getElem hvl, hv]) (by omega)
            rw [Nat.mul_one, Nat.add_zero] at hf
            rw [hc i v (by rw [hf]; rfl)]
            have hrep := hr.rep i 0 [v] _ v (.int .u8 (xs.getD i 0)) (by rw [List.getElem?_eq_getElem hvl, hv]) hri rfl (by rw [hrow]; rfl)
            generalize hx0 : C.int .u8 (xs.getD i 0) = x0 at hrep
            cases hrep <;> cases hx0
            rfl
      · cases h
    · cases h
  · cases h

theorem opF_ok {env : Env} {nid : Nat} {out : Out} {ρ : Operand → Value} {o : Oper} (m : MR g F X w mem) (he : Evals g F w mem ρ env)
    (hf : ∀ id, nid ≤ id → id < out.nid → mem id = .un) (h : opF P env mem nid o.op = some out) (hφ : out.φ) : OpOk P ρ o g F X w mem nid out := by
  unfold opF at h
  split at h
  · -- move
    rename_i x hop
    cases h
    exact .value (v := ρ x) (w' := w) (by simp [execOp, hop]) (Does.same m (he x))
  · -- assign
    rename_i x hop
    cases h
    exact .value (v := ρ x) (w' := w) (by simp [execOp, hop]) (Does.same m (he x))
  · -- pick
    rename_i c a b hop
    split at h
    · rename_i t hc
      cases h
      have hcv : VR g F w mem (ρ c) (vb t) := by have := he c; rw [hc] at this; exact this
      have hcv' : RepC F w (ρ c) (.bool t) := hcv
      have hce : ρ c = .bool t := by generalize ρ c = u at hcv'; cases hcv'; rfl
      refine .value (v := if t then ρ a else ρ b) (w' := w) (by simp [execOp, hop, hce, asBool]) (Does.same m ?_)
      have ha := he a
      have hb := he b
      show VR g F w mem _ (pickV t (getO env a) (getO env b))
      generalize getO env a = pa at ha
      generalize getO env b = pb at hb
      cases t
      · simp only [Bool.false_eq_true, if_false]
        unfold pickV
        split <;> exact hb
      · simp only [if_true]
        unfold pickV
        split <;> exact ha
    · cases h
  · -- alloc
    rename_i t hop
    split at h
    · rename_i hok
      cases h
      obtain ⟨i, d, z, hi, hd, hz, hk, hs, hb, hzz, hzs⟩ := ti_ok hok
      obtain ⟨g', m', e', v'⟩ := new_box (id := nid) (cells := z.cells) (t := t) (cs := (ti P t).zero) m (hf _ (Nat.le_refl _) (by simp)) (by rw [hzz]; simp)
        (fun i q u hq hu => by rw [hzz] at hq; simp [hu] at hq; subst hq; exact p1Of_V1 u)
      exact .value (v := .pointer (some ⟨w.heap.size, 0, none⟩)) (by simp [execOp, hop, Instr.alloc, zeroValue, typeInfo, hi, hz, newVar, newRow]) ⟨g', F, X, m', e', v'⟩
    · cases h
  · -- box
    rename_i t x hop
    split at h
    · rename_i hok
      cases h
      obtain ⟨h1, h2⟩ := VR.cells2 (he x) hok
      obtain ⟨g', m', e', v'⟩ := new_box (id := nid) (cells := (ρ x).cells) (t := t) (cs := (getO env x).cells) m (hf _ (Nat.le_refl _) (by simp)) h1
        (fun i q u hq hu => h2 i q u hq (by rw [Array.getElem?_toList]; exact hu))
      exact .value (v := .pointer (some ⟨w.heap.size, 0, none⟩)) (by simp [execOp, hop, Instr.box, newVar, newRow]) ⟨g', F, X, m', e', v'⟩
    · cases h
  · -- build
    rename_i t parts hop
    split at h
    · rename_i r hr
      cases h
      obtain ⟨u, h1, h2⟩ := buildF_ok (P := P) (t := t) (vs := parts.map fun (i, x) => (i, ρ x)) hr (by simp [partsO_len]) (fun k p v hp hv => by
        obtain ⟨q, hq, rfl⟩ := partsO_get _ _ _ hp
        simp only [Array.toList_map, List.getElem?_map, hq, Option.map_some, Option.some.injEq] at hv
        subst hv
        exact ⟨rfl, he q.2⟩)
      exact .value (v := u) (w' := w) (by simp [execOp, hop, h1]) (Does.same m h2)
    · cases h
  · -- buildSlice
    rename_i t len parts hop
    split at h
    · rename_i r us n hr
      cases h
      have hn : n = nid + 1 := by
        unfold litF at hr
        split at hr
        · split at hr
          · split at hr
            · simp only [Option.some.injEq, Prod.mk.injEq] at hr
              exact hr.2.2.symm
            · cases hr
          · cases hr
        · cases hr
      subst hn
      obtain ⟨u, w', h1, h2⟩ := litF_ok (P := P) (t := t) (vs := parts.map fun (i, x) => (i, ρ x)) m hr (by simp [partsO_len]) (hf _ (Nat.le_refl _) (by simp)) (fun k p v hp hv => by
        obtain ⟨q, hq, rfl⟩ := partsO_get _ _ _ hp
        simp only [Array.toList_map, List.getElem?_map, hq, Option.map_some, Option.some.injEq] at hv
        subst hv
        exact ⟨rfl, he q.2⟩)
      exact .value (v := u) (w' := w') (by simp [execOp, hop, h1]) h2
    · cases h
  · -- load
    rename_i t a hop
    split at h
    · rename_i hpl
      split at h
      · rename_i φ r hr
        cases h
        obtain ⟨u, h1, h2⟩ := loadF_ok (P := P) (t := t) m hpl hr hφ (he a)
        exact .value (v := u) (w' := w) (by simp [execOp, hop, h1]) (Does.same m h2)
      · cases h
    · cases h
  · -- store
    rename_i t a x hop
    split at h
    · rename_i φ us hr
      cases h
      have hax := he a
      have hxx := he x
      unfold storeF at hr
      split at hr
      · rename_i p id off ha
        rw [ha] at hax
        split at hr
        · rename_i cs hm
          split at hr
          · rename_i hcond
            simp only [Bool.and_eq_true, beq_iff_eq, decide_eq_true_eq, Bool.not_eq_true', List.isEmpty_eq_false_iff] at hcond
            obtain ⟨⟨⟨h1, h2⟩, h3, h4⟩, h5⟩ := hcond
            simp only [Option.some.injEq, Prod.mk.injEq] at hr
            obtain ⟨rfl, rfl⟩ := hr
            obtain ⟨w', hrun, m', e'⟩ := store_box (P := P) (t := t) m h5 hm h1 h2 h3 h4 hax hxx
            exact ⟨.skip, undef, w', by simp [execOp, hop, hrun], .inr ⟨rfl, rfl⟩, g, F, X, m', e', trivial⟩
          · cases hr
        · cases hr
      · rename_i p id i off ha
        rw [ha] at hax
        split at hr
        · rename_i sz rows hm
          split at hr
          · rename_i ys hys
            split at hr
            · rename_i hcond
              simp only [Bool.and_eq_true, beq_iff_eq, List.all_eq_true, bne_iff_ne] at hcond
              obtain ⟨⟨⟨h1, h2⟩, h3⟩, h5⟩ := hcond
              simp only [Option.some.injEq, Prod.mk.injEq] at hr
              obtain ⟨rfl, rfl⟩ := hr
              obtain ⟨b1, b2⟩ := VR.cells2 hxx h2
              obtain ⟨F1, X1, m1, e1, hl1, hr1⟩ := freezeL (getO env x).cells mem F X m (ρ x).cells.toList ys hys (by simp [b1]) (fun i p v hp hv => b2 i p v hp hv)
              have hm1 : updL mem (frzL mem (getO env x).cells) id = .arr sz rows := by rw [updL_other _ _ _ (fun p hp => h3 p hp)]; exact hm
              obtain ⟨w', hrun, m', e'⟩ := store_elem (P := P) (t := t) (id := id) (ys := ys) m1 h5 hm1 (by rw [b1]; exact h1) (by omega) (by rw [hl1]; exact hφ) (V1.ext hax m e1) (fun j y u hy hu => hr1 j y u hy hu)
              refine ⟨.skip, undef, w', by simp [execOp, hop, hrun], .inr ⟨rfl, rfl⟩, g, F1, X1, ?_⟩
              · show MR _ _ _ _ (updL mem (_ ++ _)) ∧ Ext _ _ _ _ _ _ _ _ _ (updL mem (_ ++ _)) ∧ _
                rw [updL_append]
                exact ⟨m', e1.trans e', trivial⟩
            · cases hr
          · cases hr
        · rename_i sz rows ov hm
          split at hr
          · rename_i hij
            simp only [Bool.and_eq_true, beq_iff_eq] at hij
            split at hr
            · rename_i q hq
              split at hr
              · rename_i hcond
                simp only [Bool.and_eq_true] at hcond
                simp only [Option.some.injEq, Prod.mk.injEq] at hr
                obtain ⟨rfl, rfl⟩ := hr
                rw [hq] at hxx
                obtain ⟨w', hrun, m', e'⟩ := store_elem1 (P := P) (t := t) m hcond.2 hm hij.1 hij.2 hφ hcond.1 hax hxx
                exact ⟨.skip, undef, w', by simp [execOp, hop, hrun], .inr ⟨rfl, rfl⟩, g, F, X, m', e', trivial⟩
              · cases hr
            · cases hr
          · split at hr
            · rename_i ys hys
              split at hr
              · rename_i hcond
                simp only [Bool.and_eq_true, beq_iff_eq, List.all_eq_true, bne_iff_ne] at hcond
                obtain ⟨⟨⟨h1, h2⟩, h3⟩, h5⟩ := hcond
                simp only [Option.some.injEq, Prod.mk.injEq] at hr
                obtain ⟨rfl, rfl⟩ := hr
                obtain ⟨b1, b2⟩ := VR.cells2 hxx h2
                obtain ⟨F1, X1, m1, e1, hl1, hr1⟩ := freezeL (getO env x).cells mem F X m (ρ x).cells.toList ys hys (by simp [b1]) (fun i p v hp hv => b2 i p v hp hv)
                have hm1 : updL mem (frzL mem (getO env x).cells) id = .arx sz rows ov := by rw [updL_other _ _ _ (fun p hp => h3 p hp)]; exact hm
                obtain ⟨w', hrun, m', e'⟩ := store_elemx (P := P) (t := t) (id := id) (ys := ys) m1 h5 hm1 (by rw [hl1]; exact hφ.2) (by rw [b1]; exact h1) (by omega) (by rw [hl1]; exact hφ.1) (V1.ext hax m e1) (fun j y u hy hu => hr1 j y u hy hu)
                refine ⟨.skip, undef, w', by simp [execOp, hop, hrun], .inr ⟨rfl, rfl⟩, g, F1, X1, ?_⟩
                · show MR _ _ _ _ (updL mem (_ ++ _)) ∧ Ext _ _ _ _ _ _ _ _ _ (updL mem (_ ++ _)) ∧ _
                  rw [updL_append]
                  exact ⟨m', e1.trans e', trivial⟩
              · cases hr
            · cases hr
        · cases hr
      · cases hr
    · cases h
  · -- nilCheck
    rename_i x hop
    split at h
    · rename_i id off hx
      split at h
      · rename_i hl
        cases h
        have := he x
        rw [hx] at this
        have hv : V1 g F w mem (ρ x) (.ptr id off) := this
        have hv2 := hv
        simp only [V1, live1] at hv hl
        split at hl
        · rename_i cs hm
          rw [hm] at hv
          simp only at hv
          exact .value (v := ρ x) (w' := w) (by simp [execOp, hop, hv]) (Does.same m hv2)
        · cases hl
      · cases h
    · cases h
  · -- binOp
    rename_i op t x y yt hop
    split at h
    · rename_i φ r hr
      cases h
      obtain ⟨u, h1, h2⟩ := binF_ok (P := P) (x := x) (y := y) hr hφ (he x) (he y)
      exact .value (v := u) (w' := w) (by
        have h1' := h1
        simp only [Sem.run_bind] at h1'
        cases hq : Sem.run P (eqGuard op t x y (ρ x) (ρ y)) w with
        | halt hh w2 => rw [hq] at h1'; simp at h1'
        | ok a w2 =>
          rw [hq] at h1'
          simp only [Result.andThen_ok] at h1'
          simp [execOp, hop, hq, h1']) (Does.same m h2)
    · cases h
  · -- unOp
    rename_i op t x hop
    split at h
    · rename_i r hr
      cases h
      obtain ⟨u, h1, h2⟩ := unF_ok (P := P) hr (he x)
      exact .value (v := u) (w' := w) (by simp [execOp, hop, h1]) (Does.same m h2)
    · cases h
  · -- convert
    rename_i s d x hop
    split at h
    · rename_i r hr
      cases h
      obtain ⟨u, h1, h2⟩ := convF_ok (P := P) hr (he x)
      exact .value (v := u) (w' := w) (by simp [execOp, hop, h1]) (Does.same m h2)
    · split at h
      · rename_i r hr
        split at h
        · rename_i hok
          cases h
          obtain ⟨u, h1, h2⟩ := convB_ok (P := P) m hok hr (he x)
          exact .value (v := u) (w' := w) (by simp [execOp, hop, h1]) (Does.same m h2)
        · cases h
      · cases h
  · -- makeFunc
    rename_i f first captured hop
    split at h
    · rename_i hfirst
      have hfe : first = #[] := by simpa using hfirst
      split at h
      · rename_i cs hcs
        split at h
        · rename_i hall
          cases h
          obtain ⟨k1, k2⟩ := capsO_ok he _ _ hcs
          refine .value (v := .func (.func f) #[] (captured.map ρ)) (w' := w) (by simp [execOp, hop, Instr.makeFunc, hfe]) (Does.same m ?_)
          refine ⟨captured.map ρ, rfl, by simpa using k1, fun i p hp => ?_⟩
          obtain ⟨x, hx, hv⟩ := k2 i p hp
          have hl := List.all_eq_true.1 hall p (List.mem_of_getElem? hp)
          have hv' : V1 g F w mem (ρ x) (.ptr p.1 p.2) := hv
          simp only [V1, live1] at hv' hl
          split at hl
          · rename_i c hm
            rw [hm] at hv'
            simp only at hv'
            simp only [hm]
            rw [Array.getElem?_map, ← Array.getElem?_toList, hx]
            simp [hv']
          · cases hl
        · cases h
      · cases h
    · cases h
  · -- makeSlice
    rename_i t l c hop
    split at h
    · rename_i φ r us n hr
      cases h
      have hn : n = nid + 1 := by
        unfold makeF at hr
        split at hr
        · split at hr
          · split at hr
            · simp only [Option.some.injEq, Prod.mk.injEq] at hr
              exact hr.2.2.2.symm
            · cases hr
          · cases hr
        · cases hr
      subst hn
      obtain ⟨u, w', h1, h2⟩ := makeF_ok (P := P) m hr hφ (he l) (he c) (hf _ (Nat.le_refl _) (by simp))
      exact .value (v := u) (w' := w') (by simp [execOp, hop, h1]) h2
    · cases h
  · -- slice
    rename_i t x lo hi hop
    split at h
    · rename_i φ r us hr
      cases h
      obtain ⟨u, h1, h2⟩ := sliceF_ok (P := P) (t := t) (vlo := lo.map ρ) (vhi := hi.map ρ) m hr hφ (he x) (mapO_some he lo).1 (mapO_some he lo).2 (mapO_some he hi).1 (mapO_some he hi).2
      exact .value (v := u) (w' := w) (by simp [execOp, hop, h1]) h2
    · split at h
      · rename_i φ r us n hr
        cases h
        have hn : n = nid + 1 := by
          unfold cutF at hr
          split at hr
          · split at hr
            · split at hr
              · split at hr
                · simp only [Option.some.injEq, Prod.mk.injEq] at hr; exact hr.2.2.2.symm
                · cases hr
              · cases hr
            · cases hr
          · cases hr
        subst hn
        obtain ⟨u, h1, h2⟩ := cutF_ok (P := P) (t := t) (vlo := lo.map ρ) (vhi := hi.map ρ) m hr hφ (he x) (hf _ (Nat.le_refl _) (by simp)) (mapO_some he lo).2 (mapO_some he hi).1 (mapO_some he hi).2
        exact .value (v := u) (w' := w) (by simp [execOp, hop, h1]) h2
      · cases h
  · -- slice with a bound of the capacity
    rename_i t x lo hi mx hop
    split at h
    · rename_i φ r us n hr
      split at h
      · rename_i hst
        cases h
        obtain ⟨u, h1, h2⟩ := clipF_ok (P := P) (t := t) (vlo := lo.map ρ) (vhi := hi.map ρ) (vmx := some (ρ mx)) m hr hst hφ (he x) (fun hne => by
          have hus : n = nid ∨ n = nid + 1 := by
            unfold clipF at hr
            split at hr
            · split at hr
              · simp only [Option.some.injEq, Prod.mk.injEq] at hr; exact .inr hr.2.2.2.symm
              · cases hr
            · simp only [Option.some.injEq, Prod.mk.injEq] at hr; exact .inl hr.2.2.2.symm
            · simp only [Option.some.injEq, Prod.mk.injEq] at hr; exact .inl hr.2.2.2.symm
            · cases hr
          rcases hus with h1 | h1
          · exact absurd h1 (Ne.symm hne)
          · exact hf _ (Nat.le_refl _) (by show nid < n; omega)) (mapO_some he lo).2 (mapO_some he hi).1 (fun p hp => by cases hp; exact ⟨_, rfl, he mx⟩)
        exact .value (v := u) (w' := w) (by simp [execOp, hop, h1]) h2
      · cases h
    · cases h
  · -- fieldAddr
    rename_i s x f hop
    split at h
    · rename_i hl
      split at h
      · rename_i r hr
        cases h
        obtain ⟨u, h1, h2⟩ := fieldF_ok (P := P) (t := s) hr (he x) hl
        exact .value (v := u) (w' := w) (by simp [execOp, hop, h1]) (Does.same m h2)
      · cases h
    · cases h
  · -- indexAddr
    rename_i t x i hop
    split at h
    · rename_i φ r hr
      cases h
      obtain ⟨u, h1, h2⟩ := idxF_ok (P := P) m hr hφ (he x) (he i)
      exact .value (v := u) (w' := w) (by simp [execOp, hop, h1]) (Does.same m h2)
    · cases h
  · -- index
    rename_i t x i hop
    split at h
    · rename_i φ r hr
      cases h
      obtain ⟨u, h1, h2⟩ := indexF_ok (P := P) hr hφ (he x) (he i)
      exact .value (v := u) (w' := w) (by simp [execOp, hop, h1]) (Does.same m h2)
    · cases h
  · -- extract
    rename_i x i hop
    split at h
    · rename_i xs hx
      split at h
      · cases h
      · rename_i r hnt hr
        cases h
        have := he x
        rw [hx] at this
        obtain ⟨vs, hvs, hsz, hc⟩ := this
        obtain ⟨u, hu, h1⟩ := hc i r hr
        refine .value (v := u) (w' := w) (by simp [execOp, hop, hvs, Instr.extract, hu]) (Does.same m ?_)
        cases r with
        | one p => exact h1
        | agg ys => exact h1
        | tup ys => exact absurd rfl (hnt ys)
      · cases h
    · cases h
  · -- len
    rename_i args argTypes hop
    split at h
    · rename_i x t hargs htypes
      split at h
      · rename_i hok
        split at h
        · rename_i n hn
          cases h
          have ha : args = #[x] := by apply Array.ext'; simpa using hargs
          have ht : argTypes = #[t] := by apply Array.ext'; simpa using htypes
          have := lenF_ok (P := P) (ty := o.type) m hok hn (he x)
          refine .value (v := goInt n) (w' := w) ?_ (Does.same m (RepC.int _ _))
          simp [execOp, hop, resolve, invoke, builtin, ha, ht, this]
        · cases h
      · cases h
    · cases h
  · -- append
    rename_i args argTypes hop
    split at h
    · rename_i x y t u hargs htypes
      have ha : args = #[x, y] := by apply Array.ext'; simpa using hargs
      have ht : argTypes = #[t, u] := by apply Array.ext'; simpa using htypes
      split at h
      · rename_i o' happ
        cases h
        obtain ⟨v, w', h1, h2⟩ := appF_ok (P := P) (ty := o.type) m happ hφ (he x) (he y) hf
        exact .value (v := v) (w' := w') (by simp [execOp, hop, resolve, invoke, builtin, ha, ht, h1]) h2
      · obtain ⟨v, w', h1, h2⟩ := appZ_ok (P := P) (ty := o.type) m h hφ (he x) (he y) hf
        exact .value (v := v) (w' := w') (by simp [execOp, hop, resolve, invoke, builtin, ha, ht, h1]) h2
    · cases h
  · -- cap
    rename_i args argTypes hop
    split at h
    · rename_i x t hargs htypes
      split at h
      · rename_i r hr
        cases h
        have ha : args = #[x] := by apply Array.ext'; simpa using hargs
        have ht : argTypes = #[t] := by apply Array.ext'; simpa using htypes
        obtain ⟨u, h1, h2⟩ := capF_ok (P := P) (ty := o.type) hr (he x)
        exact .value (v := u) (w' := w) (by simp [execOp, hop, resolve, invoke, builtin, ha, ht, h1]) (Does.same m h2)
      · cases h
    · cases h
  · cases h

end Go.Proofs.K
/- Code: regions in the order of the text, branches, blocks, calls. -/
namespace Go.Proofs.K
open Go Go.RowKit

structure St where
  env : Env
  mem : Mem
  nid : Nat

/-- The frame of a call stands for a state. -/
structure SR (g : Gs) (F X : Nat → Prop) (w : World) (sz : Nat) (st : St) (a : Act) : Prop where
  mr : MR g F X w st.mem
  env : ∀ t, VR g F w st.mem (a.eval (.tmp t)) (st.env t)
  fresh : ∀ id, st.nid ≤ id → st.mem id = .un
  size : a.tmps.size = sz
  defers : a.defers = []

structure ExtK (keep : Nat) (g : Gs) (F X : Nat → Prop) (w : World) (mem : Mem) (g' : Gs) (F' X' : Nat → Prop) (w' : World) (mem' : Mem) : Prop where
  pr : Pr X w w'
  hF : ∀ b, F b → F' b
  hX : ∀ b, X b → X' b
  fr : ∀ b, F' b → F b ∨ ¬ X b
  goes : ∀ id, id < keep → Goes g g' (mem id) (mem' id) id

section
variable {P : Program} {keep sz : Nat} {g g' g'' : Gs} {F X F' X' F'' X'' : Nat → Prop} {w w' w'' : World} {mem mem' mem'' : Mem}

theorem ExtK.refl : ExtK keep g F X w mem g F X w mem :=
  ⟨Pr.refl _ _, fun _ h => h, fun _ h => h, fun _ h => .inl h, fun id _ => Goes.refl _ _ _⟩
theorem ExtK.trans (h : ExtK keep g F X w mem g' F' X' w' mem') (k : ExtK keep g' F' X' w' mem' g'' F'' X'' w'' mem'') :
    ExtK keep g F X w mem g'' F'' X'' w'' mem'' :=
  ⟨h.pr.trans k.pr h.hX, fun b hb => k.hF b (h.hF b hb), fun b hb => k.hX b (h.hX b hb),
   fun b hb => (k.fr b hb).elim (fun h1 => h.fr b h1) (fun h1 => .inr fun h2 => h1 (h.hX b h2)), fun id hi => (h.goes id hi).trans (k.goes id hi)⟩
theorem Ext.k (h : Ext g F X w mem g' F' X' w' mem') : ExtK keep g F X w mem g' F' X' w' mem' :=
  ⟨h.pr, h.hF, h.hX, h.fr, fun id _ => h.goes id⟩
end

/-- What code does, told on states. -/
def AW (P : Program) (keep sz : Nat) (c : Code) (st : St) (Q : Exit → St → Prop) : Prop :=
  ∀ g F X w a, SR g F X w sz st a → c.wp P (fun e a' w' => ∃ st' g' F' X', Q e st' ∧ SR g' F' X' w' sz st' a' ∧ ExtK keep g F X w st.mem g' F' X' w' st'.mem) a w

def Callable (P : Program) (f : FuncId) : Prop := ∃ fn c, P.funcs[f]? = some fn ∧ fn.body = some c ∧ (fn.name == "runtime.NumGoroutine") = false

/-- Values that stand for arguments. -/
def VRs (g : Gs) (F : Nat → Prop) (w : World) (mem : Mem) (vs : List Value) (ps : List PV) : Prop :=
  vs.length = ps.length ∧ ∀ (i : Nat) (v : Value) (p : PV), vs[i]? = some v → ps[i]? = some p → VR g F w mem v p

/-- A call of a Go function, told on abstract values: 'K' is what is known behind it. -/
def SCall (P : Program) (f : PV) (args : List PV) (mem : Mem) (nid : Nat) (K : PV → Mem → Nat → Prop) : Prop :=
  match f with
  | .one (.fn fid caps) => Callable P fid ∧ ∀ g F X w (vs : List Value), MR g F X w mem → (∀ id, nid ≤ id → mem id = .un) →
      VRs g F w mem vs (args ++ caps.map fun p => .one (.ptr p.1 p.2)) →
      Calls P fid vs.toArray w fun e w' => ∃ v r mem' nid' g' F' X', e = .returned v ∧ K r mem' nid' ∧ MR g' F' X' w' mem' ∧ (∀ id, nid' ≤ id → mem' id = .un) ∧
        VR g' F' w' mem' v r ∧ Ext g F X w mem g' F' X' w' mem'
  | _ => False

def putE (env : Env) (dst : Option Tmp) (r : PV) : Env :=
  match dst with
  | some d => upd env d r
  | none => env

def dOk (sz : Nat) : Option Tmp → Bool
  | some d => decide (d < sz)
  | none => true

/-- What a skipped operation leaves. -/
@[reducible] def vnone : PV := .tup []

def argsO (env : Env) : List Operand → List PV
  | [] => []
  | x :: xs => getO env x :: argsO env xs

def evOp (P : Program) (o : Op) (dst : Option Tmp) (sz : Nat) (st : St) (K : St → Prop) : Prop :=
  match o with
  | .call { callee := .value f, args, argTypes := _ } => dOk sz dst = true ∧ SCall P (getO st.env f) (argsO st.env args.toList) st.mem st.nid fun r mem nid => K ⟨putE st.env dst r, mem, nid⟩
  | op => match opF P st.env st.mem st.nid op with
    | some out => (dOk sz dst = true ∧ out.φ) ∧ K ⟨putE st.env dst out.r, updL st.mem out.us, out.nid⟩
    | none => False

def gSlot (ops : Array Oper) (j : Nat) : Option Tmp := (ops[j]?).bind (·.dst)

def evOps (P : Program) (sz : Nat) (ops : Array Oper) : List Oper → St → (St → Prop) → Prop
  | [], st, K => K st
  | o :: os, st, K =>
    match o.guard with
    | none => evOp P o.op o.dst sz st fun st' => evOps P sz ops os st' K
    | some (j, want) =>
      match gSlot ops j with
      | some t => (match st.env t with
        | .one (.c (.bool b)) => (b = want → evOp P o.op o.dst sz st fun st' => evOps P sz ops os st' K) ∧
            (b = (!want) → dOk sz o.dst = true ∧ evOps P sz ops os ⟨putE st.env o.dst vnone, st.mem, st.nid⟩ K)
        | .tup [] => dOk sz o.dst = true ∧ evOps P sz ops os ⟨putE st.env o.dst vnone, st.mem, st.nid⟩ K
        | _ => False)
      | none => False

section
variable {P : Program} {keep sz : Nat} {g g' : Gs} {F X F' X' : Nat → Prop} {w w' : World} {st : St} {a : Act}

theorem SR.evals (h : SR g F X w sz st a) : Evals g F w st.mem a.eval st.env := fun x => by
  cases x with
  | tmp t => exact h.env t
  | const v => exact p1Of_V1 v
  | func f => exact ⟨#[], rfl, rfl, fun i p hp => by simp at hp⟩
  | global k => trivial

theorem SR.put {mem' : Mem} {nid' : Nat} {r : PV} {v : Value} {dst : Option Tmp} (h : SR g F X w sz st a) (m : MR g' F' X' w' mem') (e : Ext g F X w st.mem g' F' X' w' mem')
    (hv : VR g' F' w' mem' v r) (hf : ∀ id, nid' ≤ id → mem' id = .un) (hd : dOk sz dst = true) : SR g' F' X' w' sz ⟨putE st.env dst r, mem', nid'⟩ (a.put dst v) := by
  refine ⟨m, fun t => ?_, hf, ?_, ?_⟩
  · cases dst with
    | none => exact (h.env t).ext h.mr e
    | some d =>
      simp only [dOk, decide_eq_true_eq] at hd
      by_cases ht : t = d
      · subst ht
        have : (a.put (some t) v).eval (.tmp t) = v := by simp [Act.eval, Act.put, h.size, hd]
        rw [this]
        show VR g' F' w' mem' v (upd st.env t r t)
        rw [upd_same]
        exact hv
      · have : (a.put (some d) v).eval (.tmp t) = a.eval (.tmp t) := by simp [Act.eval, Act.put, Array.getElem?_setIfInBounds_ne (Ne.symm ht)]
        rw [this]
        show VR g' F' w' mem' _ (upd st.env d r t)
        rw [upd_ne _ _ ht]
        exact (h.env t).ext h.mr e
  · cases dst <;> simp [Act.put, h.size]
  · cases dst <;> simp [Act.put, h.defers]

theorem argsO_get {env : Env} : ∀ (xs : List Operand) (i : Nat) (p : PV), (argsO env xs)[i]? = some p → ∃ x, xs[i]? = some x ∧ p = getO env x
  | [], i, p, h => by simp [argsO] at h
  | x :: xs, i, p, h => by
    cases i with
    | zero => simp [argsO] at h; exact ⟨x, rfl, h.symm⟩
    | succ i => exact argsO_get xs i p (by simpa [argsO] using h)
theorem argsO_len {env : Env} : ∀ (xs : List Operand), (argsO env xs).length = xs.length
  | [] => rfl
  | x :: xs => by simp [argsO, argsO_len xs]

/-- The step of one operation that is carried out. -/
theorem evOp_ok {o : Oper} {K : St → Prop} {next : Act → World → Prop} {Q : Exit → Act → World → Prop} (h : SR g F X w sz st a) (hev : evOp P o.op o.dst sz st K)
    (hn : ∀ st' g' F' X' w' a', K st' → SR g' F' X' w' sz st' a' → ExtK keep g F X w st.mem g' F' X' w' st'.mem → next a' w') : o.wp P a w next Q := by
  unfold evOp at hev
  split at hev
  · rename_i f args argTypes hop
    obtain ⟨hd, hev⟩ := hev
    have hfv := h.evals f
    unfold SCall at hev
    split at hev
    · rename_i fid caps hf
      rw [hf] at hfv
      obtain ⟨cs, hfe, hcs, hcap⟩ : V1 g F w st.mem (a.eval f) (.fn fid caps) := hfv
      obtain ⟨⟨fn, c, h1, h2, h3⟩, hc⟩ := hev
      have hrun : (execOp a.eval o).run P w = .ok (.enter fid (args.map a.eval ++ cs)) w := by
        simp [execOp, hop, resolve, hfe, Deferred.ofValue, invoke, callFunc, h1, h2, beq_eq_false_iff_ne.1 h3]
      unfold Oper.wp
      rw [hrun, Oper.upon_enter]
      have hvs : (args.map a.eval ++ cs) = ((args.map a.eval).toList ++ cs.toList).toArray := by apply Array.ext'; simp
      rw [hvs]
      refine Calls.mono (hc g F X w _ h.mr h.fresh ⟨?_, fun i v p hv hp => ?_⟩) ?_
      · simp [argsO_len, hcs]
      · rw [List.getElem?_append] at hv hp
        simp only [argsO_len, Array.toList_map, List.length_map] at hv hp
        by_cases hi : i < args.toList.length
        · rw [if_pos hi] at hv hp
          obtain ⟨x, hx, rfl⟩ := argsO_get _ _ _ hp
          rw [List.getElem?_map, hx] at hv
          cases hv
          exact h.evals x
        · rw [if_neg hi] at hv hp
          simp only [List.getElem?_map, Option.map_eq_some_iff] at hp
          obtain ⟨q, hq, rfl⟩ := hp
          have := hcap _ q hq
          show V1 g F w st.mem v (.ptr q.1 q.2)
          simp only [V1]
          rw [Array.getElem?_toList] at hv
          cases hm : st.mem q.1 with
          | box cc =>
            rw [hm] at this
            rw [this] at hv
            exact (Option.some.inj hv).symm
          | dead => trivial
          | un => rw [hm] at this; exact this
          | arr _ _ => rw [hm] at this; exact this
          | frz _ => rw [hm] at this; exact this
          | arx _ _ _ => rw [hm] at this; exact this
          | arz _ _ _ => rw [hm] at this; exact this
      · rintro e w' ⟨v, r, mem', nid', g', F', X', rfl, hK, hm, hfr, hvr, hext⟩
        exact hn _ g' F' X' w' _ hK (h.put hm hext hvr hfr hd) hext.k
    · exact hev.elim
  · split at hev
    · rename_i out hout
      obtain ⟨⟨hd, hφ⟩, hK⟩ := hev
      obtain ⟨n, v, w', hrun, hnv, g', F', X', hm, hext, hvr⟩ := opF_ok (P := P) (ρ := a.eval) (o := o) h.mr h.evals (fun id h1 _ => h.fresh id h1) hout hφ
      obtain ⟨hle, hkeys, _⟩ := opF_keys h.fresh hout
      have hfr : ∀ id, out.nid ≤ id → updL st.mem out.us id = .un := fun id hid => by
        rw [updL_other _ _ _ (fun p hp => by have := hkeys p hp; omega)]
        exact h.fresh id (by omega)
      have hsr := h.put hm hext hvr hfr hd
      unfold Oper.wp
      rw [hrun]
      rcases hnv with rfl | ⟨rfl, rfl⟩
      · exact hn _ g' F' X' w' _ hK hsr hext.k
      · exact hn _ g' F' X' w' _ hK hsr hext.k
    · exact hev.elim

end

end Go.Proofs.K
/- Regions, branches, blocks, sequences. -/
namespace Go.Proofs.K
open Go Go.RowKit

variable {P : Program} {keep sz : Nat} {g g' : Gs} {F X F' X' : Nat → Prop} {w w' : World} {st : St} {a : Act}

theorem evOps_ok {ops : Array Oper} {Q : Exit → Act → World → Prop} : ∀ (os : List Oper) (pre : List Oper) (g : Gs) (F X : Nat → Prop) (w : World) (st : St) (a : Act) (K : St → Prop),
    ops.toList = pre ++ os → SR g F X w sz st a → evOps P sz ops os st K →
    (∀ st' g' F' X' w' a', K st' → SR g' F' X' w' sz st' a' → ExtK keep g F X w st.mem g' F' X' w' st'.mem → Q .normal a' w') →
    wpOps P ops Q (List.range' pre.length os.length) a w
  | [], pre, g, F, X, w, st, a, K, ho, h, hev, hn => by
    simp only [List.length_nil, List.range'_zero, wpOps]
    exact hn st g F X w a hev h ExtK.refl
  | o :: os, pre, g, F, X, w, st, a, K, ho, h, hev, hn => by
    have hi : ops[pre.length]? = some o := by rw [← Array.getElem?_toList, ho]; simp
    have ho' : ops.toList = (pre ++ [o]) ++ os := by simp [ho]
    simp only [List.length_cons, List.range'_succ, wpOps, hi]
    have hnext : ∀ (st' : St) (g' : Gs) (F' X' : Nat → Prop) (w' : World) (a' : Act), evOps P sz ops os st' K → SR g' F' X' w' sz st' a' → ExtK keep g F X w st.mem g' F' X' w' st'.mem →
        wpOps P ops Q (List.range' (pre.length + 1) os.length) a' w' := fun st' g' F' X' w' a' hev' hsr hext => by
      have := evOps_ok os (pre ++ [o]) g' F' X' w' st' a' K ho' hsr hev' (fun st2 g2 F2 X2 w2 a2 hK h2 e2 => hn st2 g2 F2 X2 w2 a2 hK h2 (hext.trans e2))
      simpa using this
    have hrun : ∀ (hev : evOp P o.op o.dst sz st fun st' => evOps P sz ops os st' K), o.wp P a w (wpOps P ops Q (List.range' (pre.length + 1) os.length)) Q :=
      fun hev => evOp_ok (keep := keep) h hev hnext
    have hskip : ∀ (hd : dOk sz o.dst = true) (hev : evOps P sz ops os ⟨putE st.env o.dst vnone, st.mem, st.nid⟩ K), wpOps P ops Q (List.range' (pre.length + 1) os.length) (a.put o.dst undef) w :=
      fun hd hev => hnext _ g F X w _ hev (h.put h.mr (Ext.refl _ _ _ _ _) ⟨#[], rfl, rfl, fun i p hp => by simp at hp⟩ h.fresh hd) ExtK.refl
    unfold evOps at hev
    cases hg : o.guard with
    | none =>
      rw [hg] at hev
      simp only [Region.wanted, hg, if_true]
      exact .inl (hrun hev)
    | some jw =>
      obtain ⟨j, want⟩ := jw
      rw [hg] at hev
      simp only at hev
      split at hev
      · rename_i t ht
        have hy : yielded ops a.tmps j = match a.tmps[t]? with | some (.bool b) => some b | _ => none := by
          unfold yielded
          rw [show ((ops[j]?).bind (·.dst)) = some t from ht]
          rfl
        have henv := h.env t
        split at hev
        · rename_i b hb
          rw [hb] at henv
          have henv' : RepC F w (a.eval (.tmp t)) (.bool b) := henv
          have hv : a.tmps[t]? = some (.bool b) := by
            have hb : a.eval (.tmp t) = .bool b := by generalize a.eval (.tmp t) = u at henv'; cases henv'; rfl
            simp only [Act.eval, Array.getD_eq_getD_getElem?] at hb
            cases hq : a.tmps[t]? with
            | none => rw [hq] at hb; cases hb
            | some u => rw [hq] at hb; simpa using hb
          rw [hv] at hy
          simp only [Region.wanted, hg, hy]
          by_cases hbw : b = want
          · subst hbw
            simp only [beq_self_eq_true, if_true]
            exact .inl (hrun (hev.1 rfl))
          · have : (some b == some want) = false := by simpa using hbw
            rw [this]
            simp only [Bool.false_eq_true, if_false]
            have hb2 : b = !want := by cases b <;> cases want <;> simp_all
            exact hskip (hev.2 hb2).1 (hev.2 hb2).2
        · rename_i hb
          rw [hb] at henv
          obtain ⟨vs, hvs, hsz, _⟩ : ∃ vs : Array Value, a.eval (.tmp t) = .tuple vs ∧ vs.size = 0 ∧ _ := henv
          have hy2 : yielded ops a.tmps j = none := by
            rw [hy]
            simp only [Act.eval, Array.getD_eq_getD_getElem?] at hvs
            cases hq : a.tmps[t]? with
            | none => rfl
            | some u => rw [hq] at hvs; simp at hvs; rw [hvs]
          simp only [Region.wanted, hg, hy2]
          exact hskip hev.1 hev.2
        · exact hev.elim
      · exact hev.elim

theorem AW.region {id : Nat} {ops : Array Oper} {Q : Exit → St → Prop} (h : evOps P sz ops ops.toList st (Q .normal)) : AW P keep sz (.region id ops false) st Q := by
  intro g F X w a hsr
  refine wp_region ?_
  have := evOps_ok (Q := fun e a' w' => ∃ st' g' F' X', Q e st' ∧ SR g' F' X' w' sz st' a' ∧ ExtK keep g F X w st.mem g' F' X' w' st'.mem) ops.toList [] g F X w st a (Q .normal) rfl hsr h
    (fun st' g' F' X' w' a' hK h2 e2 => ⟨st', g', F', X', hK, h2, e2⟩)
  simpa [List.range_eq_range'] using this

/-- What follows a first part. -/
def thenK (Q : Exit → St → Prop) (N : St → Prop) : Exit → St → Prop
  | .normal, st => N st
  | e, st => Q e st

theorem AW.seq {x y : Code} {Q : Exit → St → Prop} {R : Exit → St → Prop} (h : AW P keep sz x st R) (hn : ∀ st', R .normal st' → AW P keep sz y st' Q)
    (hq : ∀ e st', e ≠ .normal → R e st' → Q e st') : AW P keep sz (.seq x y) st Q := by
  intro g F X w a hsr
  refine wp_seq (wp_mono (h g F X w a hsr) ?_)
  rintro e a' w' ⟨st', g', F', X', hR, hsr', hext⟩
  cases e with
  | normal =>
    refine wp_mono (hn st' hR g' F' X' w' a' hsr') ?_
    rintro e a2 w2 ⟨st2, g2, F2, X2, hQ, hsr2, hext2⟩
    exact ⟨st2, g2, F2, X2, hQ, hsr2, hext.trans hext2⟩
  | exit id => exact ⟨st', g', F', X', hq _ _ (by simp) hR, hsr', hext⟩
  | goto l => exact ⟨st', g', F', X', hq _ _ (by simp) hR, hsr', hext⟩
  | ret => exact ⟨st', g', F', X', hq _ _ (by simp) hR, hsr', hext⟩
  | panic ch => exact ⟨st', g', F', X', hq _ _ (by simp) hR, hsr', hext⟩
  | outgrown => exact ⟨st', g', F', X', hq _ _ (by simp) hR, hsr', hext⟩

theorem AW.mono {c : Code} {Q R : Exit → St → Prop} (h : AW P keep sz c st R) (hq : ∀ e st', R e st' → Q e st') : AW P keep sz c st Q := by
  intro g F X w a hsr
  refine wp_mono (h g F X w a hsr) ?_
  rintro e a' w' ⟨st', g', F', X', hR, hsr', hext⟩
  exact ⟨st', g', F', X', hq _ _ hR, hsr', hext⟩

theorem AW.cond {c : Operand} {x y : Code} {Q : Exit → St → Prop} {b : Bool} (hb : getO st.env c = vb b) (ht : b = true → AW P keep sz x st Q) (hf : b = false → AW P keep sz y st Q) :
    AW P keep sz (.cond c x y) st Q := by
  intro g F X w a hsr
  have hv := hsr.evals c
  rw [hb] at hv
  have hv' : RepC F w (a.eval c) (.bool b) := hv
  have hc : a.eval c = .bool b := by generalize a.eval c = u at hv'; cases hv'; rfl
  exact wp_cond_split hc (fun h => ht h g F X w a hsr) (fun h => hf h g F X w a hsr)

theorem AW.condA {c : Operand} {x y : Code} {Q : Exit → St → Prop} (hb : getO st.env c = .one .anyb) (ht : AW P keep sz x st Q) (hf : AW P keep sz y st Q) :
    AW P keep sz (.cond c x y) st Q := by
  intro g F X w a hsr
  have hv := hsr.evals c
  rw [hb] at hv
  have hv' : ∃ b : Bool, a.eval c = .bool b := hv
  obtain ⟨b, hc⟩ := hv'
  exact wp_cond_split hc (fun h => ht g F X w a hsr) (fun h => hf g F X w a hsr)

def inBlk (id : Nat) (Q : Exit → St → Prop) : Exit → St → Prop
  | .exit id', st => if id' = id then Q .normal st else Q (.exit id') st
  | e, st => Q e st

theorem AW.block {id : Nat} {c : Code} {Q : Exit → St → Prop} (h : AW P keep sz c st (inBlk id Q)) : AW P keep sz (.block id c) st Q := by
  intro g F X w a hsr
  refine wp_block (wp_mono (h g F X w a hsr) ?_)
  rintro e a' w' ⟨st', g', F', X', hR, hsr', hext⟩
  cases e with
  | exit id' =>
    simp only [inBlk] at hR
    simp only [Exit.inBlock]
    split
    · rename_i he; rw [if_pos he] at hR; exact ⟨st', g', F', X', hR, hsr', hext⟩
    · rename_i he; rw [if_neg he] at hR; exact ⟨st', g', F', X', hR, hsr', hext⟩
  | _ => exact ⟨st', g', F', X', hR, hsr', hext⟩

/-- The code without loops is evaluated; a loop, a region whose order is open and all else is left as it is. -/
def awp (P : Program) (keep sz : Nat) : Code → St → (Exit → St → Prop) → Prop
  | .skip, st, Q => Q .normal st
  | .seq x y, st, Q => awp P keep sz x st (thenK Q fun st' => awp P keep sz y st' Q)
  | .cond c x y, st, Q => match getO st.env c with
    | .one (.c (.bool b)) => (b = true → awp P keep sz x st Q) ∧ (b = false → awp P keep sz y st Q)
    | .one .anyb => awp P keep sz x st Q ∧ awp P keep sz y st Q
    | _ => False
  | .block id c, st, Q => awp P keep sz c st (inBlk id Q)
  | .exit id, st, Q => Q (.exit id) st
  | .ret, st, Q => Q .ret st
  | .region id ops draw, st, Q => if draw then AW P keep sz (.region id ops true) st Q else evOps P sz ops ops.toList st (Q .normal)
  | c, st, Q => AW P keep sz c st Q

theorem awp_sound : ∀ (c : Code) (st : St) (Q : Exit → St → Prop), awp P keep sz c st Q → AW P keep sz c st Q
  | .skip, st, Q, h => fun g F X w a hsr => wp_skip ⟨st, g, F, X, h, hsr, ExtK.refl⟩
  | .seq x y, st, Q, h => AW.seq (awp_sound x st _ h) (fun st' h' => awp_sound y st' Q h') (fun e st' he h' => by cases e <;> first | exact absurd rfl he | exact h')
  | .cond c x y, st, Q, h => by
    unfold awp at h
    split at h
    · rename_i b hb
      exact AW.cond hb (fun hb => awp_sound x st Q (h.1 hb)) (fun hb => awp_sound y st Q (h.2 hb))
    · rename_i hb
      exact AW.condA hb (awp_sound x st Q h.1) (awp_sound y st Q h.2)
    · exact h.elim
  | .block id c, st, Q, h => AW.block (awp_sound c st _ h)
  | .exit id, st, Q, h => fun g F X w a hsr => wp_exit ⟨st, g, F, X, h, hsr, ExtK.refl⟩
  | .ret, st, Q, h => fun g F X w a hsr => wp_ret ⟨st, g, F, X, h, hsr, ExtK.refl⟩
  | .region id ops draw, st, Q, h => by
    unfold awp at h
    cases draw
    · simp only [Bool.false_eq_true, if_false] at h; exact AW.region h
    · simpa using h
  | .loop c, st, Q, h => h
  | .rangeFunc f ps x c, st, Q, h => h
  | .scope c, st, Q, h => h
  | .label l, st, Q, h => h
  | .goto l, st, Q, h => h
  | .refuse s, st, Q, h => h

/-- What a function gives back. -/
def notTup : PV → Bool
  | .tup _ => false
  | _ => true

def resL (P : Program) (st : St) : List ResultVar → Option (List PV)
  | [] => some []
  | .tmp t :: rs => match resL P st rs with
    | some l => if notTup (st.env t) then some (st.env t :: l) else none
    | none => none
  | .cell t ty :: rs => if (ti P ty).plain then (match st.env t with
    | .one (.ptr id off) => (match loadF (ti P ty) st.mem (.one (.ptr id off)), resL P st rs with
      | some (_, r), some l => if notTup r then some (r :: l) else none
      | _, _ => none)
    | _ => none) else none

def resF (P : Program) (st : St) (rs : List ResultVar) : Option PV :=
  match resL P st rs with
  | some [r] => some r
  | some l => some (.tup l)
  | none => none

theorem VR.v0 {mem : Mem} {v : Value} {p : PV} (h : VR g F w mem v p) (hn : notTup p = true) : V0 g F w mem v p := by
  cases p with
  | one p => exact h
  | agg xs => exact h
  | tup xs => cases hn

def resV : ResultVar → Array Value → Sem Value
  | .tmp t, tmps => pure (tmps.getD t undef)
  | .cell a t, tmps => do loadVar t (← asAddr (tmps.getD a undef))

theorem resL_ok (h : SR g F X w sz st a) : ∀ (rs : List ResultVar) (l : List PV), resL P st rs = some l →
    ∃ vs : List Value, (rs.mapM fun r => resV r a.tmps).run P w = .ok vs w ∧ vs.length = l.length ∧
      ∀ (i : Nat) (p : PV), l[i]? = some p → ∃ v, vs[i]? = some v ∧ VR g F w st.mem v p ∧ notTup p = true
  | [], l, hl => by cases hl; exact ⟨[], by simp, rfl, fun i p hp => by simp at hp⟩
  | .tmp t :: rs, l, hl => by
    simp only [resL] at hl
    split at hl
    · rename_i l' hl'
      split at hl
      · rename_i hnt
        cases hl
        obtain ⟨vs, h1, h2, h3⟩ := resL_ok h rs l' hl'
        have hrv : (resV (.tmp t) a.tmps).run P w = .ok (a.tmps.getD t undef) w := rfl
        refine ⟨a.tmps.getD t undef :: vs, by simp [List.mapM_cons, hrv, h1], by simp [h2], fun i p hp => ?_⟩
        cases i with
        | zero => simp at hp; subst hp; exact ⟨_, rfl, h.env t, hnt⟩
        | succ i => exact h3 i p (by simpa using hp)
      · cases hl
    · cases hl
  | .cell t ty :: rs, l, hl => by
    simp only [resL] at hl
    split at hl
    · rename_i hpl
      split at hl
      · rename_i id off henv
        split at hl
        · rename_i φ r l' hr hl'
          split at hl
          · rename_i hnt
            cases hl
            obtain ⟨vs, h1, h2, h3⟩ := resL_ok h rs l' hl'
            have hφ : φ := by
              simp only [loadF] at hr
              split at hr
              · split at hr
                · split at hr
                  · cases hr; trivial
                  · cases hr
                · split at hr
                  · cases hr; trivial
                  · cases hr
              · cases hr
            have hv := h.env t
            rw [henv] at hv
            obtain ⟨u, hu1, hu2⟩ := loadF_ok (P := P) (t := ty) h.mr hpl hr hφ hv
            have hptr : ∃ ad, a.eval (.tmp t) = .pointer (some ad) := by
              have hv' : V1 g F w st.mem (a.eval (.tmp t)) (.ptr id off) := hv
              simp only [V1] at hv'
              simp only [loadF] at hr
              split at hr
              · rename_i cs hm; rw [hm] at hv'; exact ⟨_, hv'⟩
              · cases hr
            obtain ⟨ad, had⟩ := hptr
            have had' : a.tmps.getD t undef = .pointer (some ad) := had
            rw [had] at hu1
            have hlv : (loadVar ty ad).run P w = .ok u w := by simpa [Instr.loadAt, Instr.sureAddr] using hu1
            refine ⟨u :: vs, ?_, by simp [h2], fun i p hp => ?_⟩
            · have hrv : (resV (.cell t ty) a.tmps).run P w = .ok u w := by simp only [resV, had']; simpa [asAddr] using hlv
              simp [List.mapM_cons, hrv, h1]
            · cases i with
              | zero => simp at hp; subst hp; exact ⟨_, rfl, hu2, hnt⟩
              | succ i => exact h3 i p (by simpa using hp)
          · cases hl
        · cases hl
      · cases hl
    · cases hl

theorem results_eq (fn : Func) (tmps : Array Value) : results fn tmps = (do
    let vs ← fn.results.mapM fun r => resV r tmps
    pure (if h : vs.size = 1 then vs[0] else .tuple vs)) := by
  unfold results
  congr 1
  congr 1
  funext r
  cases r <;> rfl

theorem resF_ok {fn : Func} {r : PV} (h : SR g F X w sz st a) (hr : resF P st fn.results.toList = some r) :
    ∃ v, (results fn a.tmps).run P w = .ok v w ∧ VR g F w st.mem v r := by
  unfold resF at hr
  rw [results_eq]
  split at hr
  · rename_i r' hl
    cases hr
    obtain ⟨vs, h1, h2, h3⟩ := resL_ok h _ _ hl
    obtain ⟨v, hv, hvr, _⟩ := h3 0 r rfl
    have hvs : vs = [v] := by
      cases vs with
      | nil => simp at h2
      | cons x xs => simp at h2 hv; subst h2 hv; rfl
    subst hvs
    refine ⟨v, ?_, hvr⟩
    rw [Array.mapM_eq_mapM_toList]
    simp [h1]
  · rename_i l hne hl
    cases hr
    obtain ⟨vs, h1, h2, h3⟩ := resL_ok h _ _ hl
    have hn1 : vs.length ≠ 1 := fun e => by
      rw [h2] at e
      match l, e with
      | [x], _ => exact hne x rfl
    refine ⟨.tuple vs.toArray, ?_, vs.toArray, rfl, by simpa using h2, fun i p hp => ?_⟩
    · rw [Array.mapM_eq_mapM_toList]
      simp [h1, hn1]
    · obtain ⟨v, hv, hvr, hnt⟩ := h3 i p hp
      exact ⟨v, by simpa using hv, hvr.v0 hnt⟩
  · cases hr

end Go.Proofs.K
/- Functions: a call that is walked in place; a contract; a call by a contract. -/
namespace Go.Proofs.K
open Go Go.RowKit

variable {P : Program} {keep sz : Nat} {g g' : Gs} {F X F' X' : Nat → Prop} {w w' : World} {st : St} {a : Act} {mem : Mem}

def initE (ps : List PV) : Env := fun t => ps.getD t vnone

def retK (P : Program) (rs : List ResultVar) (K : PV → Mem → Nat → Prop) : Exit → St → Prop
  | .normal, st | .ret, st => (match resF P st rs with
    | some r => K r st.mem st.nid
    | none => False)
  | _, _ => False

/-- A function as the program has it. -/
structure FnIs (P : Program) (fid : FuncId) (c : Code) (ntmps : Nat) (rs : List ResultVar) : Prop where
  ex : ∃ fn, P.funcs[fid]? = some fn ∧ fn.body = some c ∧ fn.ntmps = ntmps ∧ fn.results.toList = rs ∧ (fn.name == "runtime.NumGoroutine") = false

theorem FnIs.callable {fid : FuncId} {c : Code} {n : Nat} {rs : List ResultVar} (h : FnIs P fid c n rs) : Callable P fid := by
  obtain ⟨fn, h1, h2, _, _, h5⟩ := h.ex
  exact ⟨fn, c, h1, h2, h5⟩

theorem sr_init {vs : List Value} {ps : List PV} {nid : Nat} (m : MR g F X w mem) (hf : ∀ id, nid ≤ id → mem id = .un) (h : VRs g F w mem vs ps) (hn : ps.length ≤ sz) :
    SR g F X w sz ⟨initE ps, mem, nid⟩ { tmps := vs.toArray ++ Array.replicate (sz - vs.toArray.size) undef, defers := [] } := by
  refine ⟨m, fun t => ?_, hf, by simp [h.1]; omega, rfl⟩
  show VR g F w mem ((vs.toArray ++ Array.replicate (sz - vs.toArray.size) undef).getD t undef) (ps.getD t vnone)
  by_cases ht : t < vs.length
  · have ht2 : t < ps.length := by rw [← h.1]; exact ht
    have e1 : (vs.toArray ++ Array.replicate (sz - vs.toArray.size) undef).getD t undef = vs[t] := by
      simp only [Array.getD_eq_getD_getElem?]
      rw [Array.getElem?_append_left (by simpa using ht)]
      simp [ht]
    have e2 : ps.getD t vnone = ps[t] := by simp [List.getD, ht2]
    rw [e1, e2]
    exact h.2 t _ _ (by simp [ht]) (by simp [ht2])
  · have e1 : (vs.toArray ++ Array.replicate (sz - vs.toArray.size) undef).getD t undef = undef := by
      simp only [Array.getD_eq_getD_getElem?]
      rw [Array.getElem?_append_right (by simpa using ht)]
      simp only [Array.getElem?_replicate]
      split <;> rfl
    have e2 : ps.getD t vnone = vnone := by
      have : ps.length ≤ t := by rw [← h.1]; exact Nat.le_of_not_lt ht
      simp [List.getD, this]
    rw [e1, e2]
    exact ⟨#[], rfl, rfl, fun i p hp => by simp at hp⟩

theorem call_body {fid : FuncId} {c : Code} {n nid : Nat} {rs : List ResultVar} {vs : List Value} {ps : List PV} {K : PV → Mem → Nat → Prop} (hfn : FnIs P fid c n rs)
    (m : MR g F X w mem) (hf : ∀ id, nid ≤ id → mem id = .un) (h : VRs g F w mem vs ps) (hn : ps.length ≤ n)
    (hb : AW P keep n c ⟨initE ps, mem, nid⟩ (retK P rs K)) :
    Calls P fid vs.toArray w fun e w' => ∃ v r mem' nid' g' F' X', e = .returned v ∧ K r mem' nid' ∧ MR g' F' X' w' mem' ∧ (∀ id, nid' ≤ id → mem' id = .un) ∧
        VR g' F' w' mem' v r ∧ ExtK keep g F X w mem g' F' X' w' mem' := by
  obtain ⟨fn, h1, h2, rfl, rfl, h5⟩ := hfn.ex
  refine calls_of_wp h1 h2 (wp_mono (hb g F X w _ (sr_init m hf h hn)) ?_)
  rintro e a' w' ⟨st', g', F', X', hQ, hsr, hext⟩
  have key : ∀ (hQ : match resF P st' fn.results.toList with | some r => K r st'.mem st'.nid | none => False),
      a'.defers = [] ∧ ∃ v, (results fn a'.tmps).run P w' = .ok v w' ∧ ∃ v_1 r mem' nid' g' F' X', Ending.returned v = Ending.returned v_1 ∧ K r mem' nid' ∧ MR g' F' X' w' mem' ∧ (∀ id, nid' ≤ id → mem' id = .un) ∧
        VR g' F' w' mem' v_1 r ∧ ExtK keep g F X w mem g' F' X' w' mem' := fun hQ => by
    split at hQ
    · rename_i r hr
      obtain ⟨v, hv, hvr⟩ := resF_ok (P := P) (fn := fn) hsr hr
      exact ⟨hsr.defers, v, hv, v, r, st'.mem, st'.nid, g', F', X', rfl, hQ, hsr.mr, hsr.fresh, hvr, hext⟩
    · exact hQ.elim
  cases e with
  | normal => exact key hQ
  | ret => exact key hQ
  | exit id => exact hQ.elim
  | goto l => exact hQ.elim
  | panic ch => exact hQ.elim
  | outgrown => exact hQ.elim

/-- A call whose body is walked in place. -/
theorem scall_inline {fid : FuncId} {caps : List (Nat × Nat)} {c : Code} {n nid : Nat} {rs : List ResultVar} {args : List PV} {K : PV → Mem → Nat → Prop} (hfn : FnIs P fid c n rs)
    (hn : args.length + caps.length ≤ n) (hb : awp P nid n c ⟨initE (args ++ caps.map fun p => .one (.ptr p.1 p.2)), mem, nid⟩ (retK P rs K)) :
    SCall P (.one (.fn fid caps)) args mem nid K := by
  refine ⟨hfn.callable, fun g F X w vs m hf hv => ?_⟩
  refine Calls.mono (call_body (keep := nid) hfn m hf hv (by simpa using hn) (awp_sound _ _ _ hb)) ?_
  rintro e w' ⟨v, r, mem', nid', g', F', X', he, hK, hm, hfr, hvr, hext⟩
  refine ⟨v, r, mem', nid', g', F', X', he, hK, hm, hfr, hvr, hext.pr, hext.hF, hext.hX, hext.fr, fun id => ?_⟩
  by_cases hid : id < nid
  · exact hext.goes id hid
  · rw [hf id (by omega)]; trivial

/-! ### Contracts -/

def pos (i : Nat) : List Nat → Nat → Option Nat
  | [], _ => none
  | j :: js, k => if j = i then some k else pos i js (k + 1)

def expIds (mem : Mem) : List P1 → List Nat → List Nat
  | [], acc => acc
  | .ms id :: ps, acc => (match mem id with
    | .arr _ _ => if acc.contains id then expIds mem ps acc else expIds mem ps (acc ++ [id])
    | _ => expIds mem ps acc)
  | _ :: ps, acc => expIds mem ps acc

def exp1 (mem : Mem) (ids : List Nat) : P1 → Option P1
  | .c x => some (.c x)
  | .nil => some .nil
  | .ms id => match mem id with
    | .arr _ _ => (pos id ids 0).map .ms
    | .frz rows => some (.c (.lst rows))
    | _ => none
  | _ => none

def expL (mem : Mem) (ids : List Nat) : List P1 → Option (List P1)
  | [] => some []
  | p :: ps => match exp1 mem ids p, expL mem ids ps with
    | some q, some qs => some (q :: qs)
    | _, _ => none

def expV (mem : Mem) (ids : List Nat) : PV → Option PV
  | .one p => (exp1 mem ids p).map .one
  | .agg xs => (expL mem ids xs).map .agg
  | .tup _ => none

def expVs (mem : Mem) (ids : List Nat) : List PV → Option (List PV)
  | [] => some []
  | p :: ps => match expV mem ids p, expVs mem ids ps with
    | some q, some qs => some (q :: qs)
    | _, _ => none

def cellsL : List PV → List P1
  | [] => []
  | p :: ps => p.cells ++ cellsL ps

def expR (mem : Mem) : PV → Option (PV × List Nat)
  | .tup xs => let ids := expIds mem (cellsL xs) []
    (expVs mem ids xs).map fun ys => (.tup ys, ids)
  | p => let ids := expIds mem p.cells []
    (expV mem ids p).map fun q => (q, ids)

def rowsAt (mem : Mem) : List Nat → List (Nat × List (List C))
  | [] => []
  | id :: ids => match mem id with
    | .arr sz rows => (sz, rows) :: rowsAt mem ids
    | _ => (0, []) :: rowsAt mem ids

def memOf (ms : List (Nat × List (List C))) : Mem := fun k => match ms[k]? with
  | some (sz, rows) => .arr sz rows
  | none => .un

def g0 : Gs := fun _ => default
def mem0 : Mem := fun _ => .un

/-- The contract of a function of data: what comes back lies in new memory. -/
def Con (P : Program) (fid : FuncId) (args : List PV) (Q : PV → List (Nat × List (List C)) → Prop) : Prop :=
  Callable P fid ∧ ∀ (F : Nat → Prop) (w : World) (vs : List Value), (∀ b, F b → b < w.heap.size) → VRs g0 F w mem0 vs args →
    Calls P fid vs.toArray w fun e w' => ∃ v r ms g F', e = .returned v ∧ Q r ms ∧ MR g F' F' w' (memOf ms) ∧ VR g F' w' (memOf ms) v r ∧
      Pr (· < w.heap.size) w w' ∧ (∀ b, F b → F' b) ∧ (∀ b, F' b → F b ∨ w.heap.size ≤ b) ∧ ∀ k, owns g (memOf ms) k = true → w.heap.size ≤ (g k).blk

def retC (P : Program) (rs : List ResultVar) (Q : PV → List (Nat × List (List C)) → Prop) : PV → Mem → Nat → Prop :=
  fun r mem _ => match expR mem r with
    | some (q, ids) => Q q (rowsAt mem ids)
    | none => False

theorem pos_get : ∀ (ids : List Nat) (i k n : Nat), pos i ids k = some n → k ≤ n ∧ ids[n - k]? = some i
  | [], i, k, n, h => by cases h
  | j :: js, i, k, n, h => by
    simp only [pos] at h
    split at h
    · rename_i e; cases h; subst e; simp
    · obtain ⟨h1, h2⟩ := pos_get js i (k + 1) n h
      refine ⟨by omega, ?_⟩
      have : n - k = (n - (k + 1)) + 1 := by omega
      rw [this]; simpa using h2

theorem expIds_ok (mem : Mem) : ∀ (ps : List P1) (acc : List Nat), acc.Nodup → (∀ id ∈ acc, ∃ sz rows, mem id = .arr sz rows) →
    (expIds mem ps acc).Nodup ∧ ∀ id ∈ expIds mem ps acc, ∃ sz rows, mem id = .arr sz rows
  | [], acc, h1, h2 => ⟨h1, h2⟩
  | p :: ps, acc, h1, h2 => by
    cases p with
    | ms id =>
      simp only [expIds]
      split
      · rename_i sz rows hm
        split
        · exact expIds_ok mem ps acc h1 h2
        · rename_i hc
          refine expIds_ok mem ps _ ?_ ?_
          · rw [List.nodup_append]
            refine ⟨h1, by simp, fun a ha b hb => ?_⟩
            simp at hb; subst hb
            intro e; subst e
            simp at hc
            exact hc ha
          · intro i hi
            rcases List.mem_append.1 hi with hi | hi
            · exact h2 i hi
            · simp at hi; subst hi; exact ⟨sz, rows, hm⟩
      · exact expIds_ok mem ps acc h1 h2
    | _ => exact expIds_ok mem ps acc h1 h2

theorem rowsAt_get (mem : Mem) : ∀ (ids : List Nat) (k id sz : Nat) (rows : List (List C)), ids[k]? = some id → mem id = .arr sz rows → (rowsAt mem ids)[k]? = some (sz, rows)
  | [], k, id, sz, rows, h, _ => by simp at h
  | i :: ids, k, id, sz, rows, h, hm => by
    cases k with
    | zero => simp at h; subst h; simp [rowsAt, hm]
    | succ k =>
      have := rowsAt_get mem ids k id sz rows (by simpa using h) hm
      simp only [rowsAt]
      split <;> simpa using this

theorem rowsAt_len (mem : Mem) : ∀ (ids : List Nat), (rowsAt mem ids).length = ids.length
  | [] => rfl
  | i :: ids => by simp only [rowsAt]; split <;> simp [rowsAt_len mem ids]

theorem exp_mr {ids : List Nat} (m : MR g F X w mem) (hnd : ids.Nodup) (hid : ∀ id ∈ ids, ∃ sz rows, mem id = .arr sz rows) :
    MR (fun k => g (ids.getD k 0)) F X w (memOf (rowsAt mem ids)) := by
  have hget : ∀ (k : Nat), k < ids.length → ∃ sz rows, mem (ids.getD k 0) = .arr sz rows ∧ memOf (rowsAt mem ids) k = .arr sz rows := fun k hk => by
    have hk' : ids[k]? = some (ids.getD k 0) := by simp [List.getD, hk]
    obtain ⟨sz, rows, hm⟩ := hid _ (List.mem_of_getElem? hk')
    exact ⟨sz, rows, hm, by simp [memOf, rowsAt_get mem ids k _ sz rows hk' hm]⟩
  have hout : ∀ (k : Nat), ¬ k < ids.length → memOf (rowsAt mem ids) k = .un := fun k hk => by
    have : (rowsAt mem ids)[k]? = none := by rw [List.getElem?_eq_none]; rw [rowsAt_len]; omega
    simp [memOf, this]
  have hown : ∀ k, owns (fun k => g (ids.getD k 0)) (memOf (rowsAt mem ids)) k = true → k < ids.length ∧ owns g mem (ids.getD k 0) = true := fun k hk => by
    by_cases h : k < ids.length
    · obtain ⟨sz, rows, h1, h2⟩ := hget k h
      refine ⟨h, ?_⟩
      unfold owns at hk ⊢
      rw [h2] at hk
      rw [h1]
      exact hk
    · simp [owns, hout k h] at hk
  refine ⟨fun k => ?_, fun i j hij hi hj => ?_, fun i hi => m.own _ (hown i hi).2, m.sub, m.lt⟩
  · by_cases h : k < ids.length
    · obtain ⟨sz, rows, h1, h2⟩ := hget k h
      have := m.blk (ids.getD k 0)
      rw [h1] at this
      rw [h2]
      exact this
    · rw [hout k h]; trivial
  · obtain ⟨h1, h2⟩ := hown i hi
    obtain ⟨k1, k2⟩ := hown j hj
    refine m.apart _ _ (fun e => hij ?_) h2 k2
    have e1 : ids[i] = ids[j] := by simpa [List.getD, h1, k1] using e
    exact (List.getElem_inj hnd).1 e1

theorem exp1_ok {ids : List Nat} {p q : P1} {v : Value} (m : MR g F X w mem) (h : exp1 mem ids p = some q) (hv : V1 g F w mem v p) :
    V1 (fun k => g (ids.getD k 0)) F w (memOf (rowsAt mem ids)) v q := by
  cases p <;> simp only [exp1] at h <;> try (cases h; done)
  · cases h; exact hv
  · cases h; exact hv
  · rename_i id
    simp only [V1] at hv
    split at h
    · rename_i sz rows hm
      rw [hm] at hv
      simp only at hv
      simp only [Option.map_eq_some_iff] at h
      obtain ⟨k, hk, rfl⟩ := h
      obtain ⟨_, hk2⟩ := pos_get ids id 0 k hk
      simp only [Nat.sub_zero] at hk2
      have h3 := rowsAt_get mem ids k id sz rows hk2 hm
      have h4 : ids.getD k 0 = id := by simp [List.getD, hk2]
      have h5 : memOf (rowsAt mem ids) k = .arr sz rows := by simp [memOf, h3]
      simp only [V1, h5, h4]
      exact hv
    · rename_i rows hm
      cases h
      rw [hm] at hv
      simp only at hv
      subst hv
      have := m.blk id
      rw [hm] at this
      exact this
    · cases h

theorem expL_ok {ids : List Nat} (m : MR g F X w mem) : ∀ (ps qs : List P1), expL mem ids ps = some qs → qs.length = ps.length ∧ ∀ (i : Nat) (p q : P1), ps[i]? = some p → qs[i]? = some q → exp1 mem ids p = some q
  | [], qs, h => by cases h; exact ⟨rfl, fun i p q hp => by simp at hp⟩
  | p :: ps, qs, h => by
    simp only [expL] at h
    split at h
    · rename_i q qs' h1 h2
      cases h
      obtain ⟨k1, k2⟩ := expL_ok m ps qs' h2
      refine ⟨by simp [k1], fun i a b ha hb => ?_⟩
      cases i with
      | zero => simp at ha hb; subst ha hb; exact h1
      | succ i => exact k2 i a b (by simpa using ha) (by simpa using hb)
    · cases h

theorem expV_ok {ids : List Nat} {p q : PV} {v : Value} (m : MR g F X w mem) (h : expV mem ids p = some q) (hv : V0 g F w mem v p) :
    V0 (fun k => g (ids.getD k 0)) F w (memOf (rowsAt mem ids)) v q := by
  cases p with
  | one p =>
    simp only [expV, Option.map_eq_some_iff] at h
    obtain ⟨q', hq, rfl⟩ := h
    exact exp1_ok m hq hv
  | agg xs =>
    simp only [expV, Option.map_eq_some_iff] at h
    obtain ⟨ys, hy, rfl⟩ := h
    obtain ⟨k1, k2⟩ := expL_ok m xs ys hy
    obtain ⟨vs, rfl, hs, hc⟩ := hv
    refine ⟨vs, rfl, by omega, fun i q hq => ?_⟩
    have hlt : i < xs.length := by rw [← k1]; exact (List.getElem?_eq_some_iff.1 hq).1
    obtain ⟨u, hu, h1⟩ := hc i xs[i] (by simp [hlt])
    exact ⟨u, hu, exp1_ok m (k2 i xs[i] q (by simp [hlt]) hq) h1⟩
  | tup xs => cases h

theorem expVs_ok {ids : List Nat} : ∀ (ps qs : List PV), expVs mem ids ps = some qs → qs.length = ps.length ∧ ∀ (i : Nat) (p q : PV), ps[i]? = some p → qs[i]? = some q → expV mem ids p = some q
  | [], qs, h => by cases h; exact ⟨rfl, fun i p q hp => by simp at hp⟩
  | p :: ps, qs, h => by
    simp only [expVs] at h
    split at h
    · rename_i q qs' h1 h2
      cases h
      obtain ⟨k1, k2⟩ := expVs_ok ps qs' h2
      refine ⟨by simp [k1], fun i a b ha hb => ?_⟩
      cases i with
      | zero => simp at ha hb; subst ha hb; exact h1
      | succ i => exact k2 i a b (by simpa using ha) (by simpa using hb)
    · cases h

theorem expR_ok {r q : PV} {ids : List Nat} {v : Value} (m : MR g F X w mem) (h : expR mem r = some (q, ids)) (hv : VR g F w mem v r) :
    MR (fun k => g (ids.getD k 0)) F X w (memOf (rowsAt mem ids)) ∧ VR (fun k => g (ids.getD k 0)) F w (memOf (rowsAt mem ids)) v q ∧ ∀ id ∈ ids, ∃ sz rows, mem id = .arr sz rows := by
  cases r with
  | tup xs =>
    simp only [expR, Option.map_eq_some_iff, Prod.mk.injEq] at h
    obtain ⟨ys, hy, rfl, rfl⟩ := h
    obtain ⟨h1, h2⟩ := expIds_ok mem (cellsL xs) [] (by simp) (by simp)
    refine ⟨exp_mr m h1 h2, ?_, h2⟩
    obtain ⟨k1, k2⟩ := expVs_ok xs ys hy
    obtain ⟨vs, rfl, hs, hc⟩ := hv
    refine ⟨vs, rfl, by omega, fun i q hq => ?_⟩
    have hlt : i < xs.length := by rw [← k1]; exact (List.getElem?_eq_some_iff.1 hq).1
    obtain ⟨u, hu, h3⟩ := hc i xs[i] (by simp [hlt])
    exact ⟨u, hu, expV_ok m (k2 i xs[i] q (by simp [hlt]) hq) h3⟩
  | one p =>
    simp only [expR, Option.map_eq_some_iff, Prod.mk.injEq] at h
    obtain ⟨y, hy, rfl, rfl⟩ := h
    obtain ⟨h1, h2⟩ := expIds_ok mem (PV.one p).cells [] (by simp) (by simp)
    refine ⟨exp_mr m h1 h2, ?_, h2⟩
    have := expV_ok (p := .one p) m hy hv
    cases y with
    | one y => exact this
    | agg y => exact this
    | tup y => simp [expV] at hy
  | agg xs =>
    simp only [expR, Option.map_eq_some_iff, Prod.mk.injEq] at h
    obtain ⟨y, hy, rfl, rfl⟩ := h
    obtain ⟨h1, h2⟩ := expIds_ok mem (PV.agg xs).cells [] (by simp) (by simp)
    refine ⟨exp_mr m h1 h2, ?_, h2⟩
    have := expV_ok (p := .agg xs) m hy hv
    cases y with
    | one y => exact this
    | agg y => exact this
    | tup y => simp [expV] at hy

theorem mr0 {w : World} (F : Nat → Prop) (hF : ∀ b, F b → b < w.heap.size) : MR g0 F (· < w.heap.size) w mem0 :=
  ⟨fun _ => trivial, fun i j _ h => by simp [owns, mem0] at h, fun i h => by simp [owns, mem0] at h, hF, fun _ h => h⟩

/-- A contract out of the body. -/
theorem con_intro {fid : FuncId} {c : Code} {n : Nat} {rs : List ResultVar} {args : List PV} {Q : PV → List (Nat × List (List C)) → Prop} (hfn : FnIs P fid c n rs)
    (hn : args.length ≤ n) (hb : awp P 0 n c ⟨initE args, mem0, 0⟩ (retK P rs (retC P rs Q))) : Con P fid args Q := by
  refine ⟨hfn.callable, fun F w vs hF hv => ?_⟩
  refine Calls.mono (call_body (keep := 0) hfn (mr0 F hF) (fun _ _ => rfl) hv hn (awp_sound _ _ _ hb)) ?_
  rintro e w' ⟨v, r, mem', nid', g', F', X', he, hK, hm, hfr, hvr, hext⟩
  unfold retC at hK
  split at hK
  · rename_i q ids hq
    obtain ⟨h1, h2, h3⟩ := expR_ok hm hq hvr
    refine ⟨v, q, rowsAt mem' ids, fun k => g' (ids.getD k 0), F', he, hK, ?_, h2, hext.pr, hext.hF, fun b hb => (hext.fr b hb).imp id (fun h => by omega), fun k hk => ?_⟩
    · exact ⟨h1.blk, h1.apart, fun i hi => ⟨fun hf => (h1.own i hi).1 (h1.sub _ hf), (h1.own i hi).2⟩, fun _ h => h, fun b hb => h1.lt b (h1.sub b hb)⟩
    · have := (h1.own k hk).1
      have h4 : ¬ ((g' (ids.getD k 0)).blk < w.heap.size) := fun h => this (hext.hX _ h)
      show w.heap.size ≤ (g' (ids.getD k 0)).blk
      omega
  · exact hK.elim

end Go.Proofs.K
/- A call by a contract. -/
namespace Go.Proofs.K
open Go Go.RowKit

variable {P : Program} {keep sz : Nat} {g g' : Gs} {F X F' X' : Nat → Prop} {w w' : World} {st : St} {a : Act} {mem : Mem}

/-- What is handed over: data. -/
def dat1 (mem : Mem) : P1 → Option P1
  | .fn f [] => some (.fn f [])
  | .top => some .top
  | p => (toC1 mem p).map .c

def datL (mem : Mem) : List P1 → Option (List P1)
  | [] => some []
  | p :: ps => match dat1 mem p, datL mem ps with
    | some q, some qs => some (q :: qs)
    | _, _ => none

def datV (mem : Mem) : PV → Option PV
  | .one p => (dat1 mem p).map .one
  | .agg xs => (datL mem xs).map .agg
  | .tup _ => none

def datA (mem : Mem) : List PV → Option (List PV)
  | [] => some []
  | p :: ps => match datV mem p, datA mem ps with
    | some q, some qs => some (q :: qs)
    | _, _ => none

/-- Data without a list in it. -/
def flatC : C → Bool
  | .lst _ => false
  | _ => true
def flat1 : P1 → Bool
  | .c x => flatC x
  | .fp _ _ => false
  | _ => true
def flat0 : PV → Bool
  | .one p => flat1 p
  | .agg ys => ys.all flat1
  | .tup _ => true
def flatV : PV → Bool
  | .one p => flat1 p
  | .agg xs => xs.all flat1
  | .tup xs => xs.all flat0
def flatM (ms : List (Nat × List (List C))) : Bool := ms.all fun q => q.2.all fun r => r.all flatC

theorem RepC.flat {v : Value} {x : C} (h : RepC F w v x) (hf : flatC x = true) : RepC F' w v x := by
  cases h with
  | int k n => exact .int k n
  | bool b => exact .bool b
  | str s => exact .str s
  | nil a cap => cases hf
  | lst => cases hf

/-- The new blocks of a call under new names. -/
def sh1 (n : Nat) : P1 → P1
  | .ms id => .ms (n + id)
  | .ptr id off => .ptr (n + id) off
  | .ep id i off => .ep (n + id) i off
  | .fn f cap => .fn f (cap.map fun p => (n + p.1, p.2))
  | p => p
def sh0 (n : Nat) : PV → PV
  | .one p => .one (sh1 n p)
  | .agg xs => .agg (xs.map (sh1 n))
  | .tup zs => .tup zs
def shV (n : Nat) : PV → PV
  | .one p => .one (sh1 n p)
  | .agg xs => .agg (xs.map (sh1 n))
  | .tup xs => .tup (xs.map (sh0 n))
def shM (n : Nat) : List (Nat × List (List C)) → List (Nat × Blk)
  | [] => []
  | (sz, rows) :: ms => (n, .arr sz rows) :: shM (n + 1) ms

theorem shM_get : ∀ (ms : List (Nat × List (List C))) (n : Nat) (mem : Mem) (id : Nat), updL mem (shM n ms) id = if n ≤ id ∧ id < n + ms.length then memOf ms (id - n) else mem id
  | [], n, mem, id => by simp [shM, updL]; omega
  | (sz, rows) :: ms, n, mem, id => by
    simp only [shM, updL]
    rw [shM_get ms (n + 1) _ id]
    by_cases h1 : n + 1 ≤ id ∧ id < n + 1 + ms.length
    · rw [if_pos h1, if_pos (by simp; omega)]
      have : id - n = (id - (n + 1)) + 1 := by omega
      rw [this]
      simp [memOf]
    · rw [if_neg h1]
      by_cases h2 : id = n
      · subst h2
        rw [upd_same, if_pos (by simp)]
        simp [memOf]
      · rw [upd_ne _ _ h2, if_neg (by simp; omega)]

/-- Two local memories side by side. -/
theorem MR.join {gc : Gs} {Fd : Nat → Prop} {nid : Nat} {ms : List (Nat × List (List C))} (m : MR g F X w mem) (hfr : ∀ id, nid ≤ id → id < nid + ms.length → mem id = .un)
    (hpr : Pr (· < w.heap.size) w w') (hFd : ∀ b, F b → Fd b) (hFn : ∀ b, Fd b → F b ∨ w.heap.size ≤ b) (hFl : ∀ b, Fd b → b < w'.heap.size)
    (hblk : ∀ k, BlkR gc Fd w' (memOf ms) k (memOf ms k)) (hap : ∀ i j, i ≠ j → owns gc (memOf ms) i = true → owns gc (memOf ms) j = true → (gc i).blk ≠ (gc j).blk)
    (hnew : ∀ k, owns gc (memOf ms) k = true → w.heap.size ≤ (gc k).blk ∧ (gc k).blk < w'.heap.size ∧ ¬ Fd (gc k).blk) :
    MR (fun id => if nid ≤ id ∧ id < nid + ms.length then gc (id - nid) else g id) Fd (fun b => X b ∨ Fd b) w' (updL mem (shM nid ms)) ∧
      Ext g F X w mem (fun id => if nid ≤ id ∧ id < nid + ms.length then gc (id - nid) else g id) Fd (fun b => X b ∨ Fd b) w' (updL mem (shM nid ms)) := by
  have hlow : ∀ id, ¬ (nid ≤ id ∧ id < nid + ms.length) → updL mem (shM nid ms) id = mem id := fun id h => by rw [shM_get, if_neg h]
  have hhigh : ∀ id, (nid ≤ id ∧ id < nid + ms.length) → updL mem (shM nid ms) id = memOf ms (id - nid) := fun id h => by rw [shM_get, if_pos h]
  have hgo : ∀ id, Goes g (fun id => if nid ≤ id ∧ id < nid + ms.length then gc (id - nid) else g id) (mem id) (updL mem (shM nid ms) id) id := fun id => by
    by_cases h : nid ≤ id ∧ id < nid + ms.length
    · rw [hfr id h.1 h.2]; trivial
    · rw [hlow id h]; cases mem id <;> simp [Goes, h]
  have hw : ∀ b, F b → w'.heap[b]? = w.heap[b]? := fun b hb => hpr.block b (m.lt b (m.sub b hb))
  have hown : ∀ i, owns (fun id => if nid ≤ id ∧ id < nid + ms.length then gc (id - nid) else g id) (updL mem (shM nid ms)) i = true →
      (¬ (nid ≤ i ∧ i < nid + ms.length) ∧ owns g mem i = true) ∨ ((nid ≤ i ∧ i < nid + ms.length) ∧ owns gc (memOf ms) (i - nid) = true) := fun i hi => by
    by_cases h : nid ≤ i ∧ i < nid + ms.length
    · right; refine ⟨h, ?_⟩
      unfold owns at hi ⊢
      rw [hhigh i h] at hi
      simpa [h] using hi
    · left; refine ⟨h, ?_⟩
      unfold owns at hi ⊢
      rw [hlow i h] at hi
      simpa [h] using hi
  refine ⟨⟨fun i => ?_, fun i j hij hi hj => ?_, fun i hi => ?_, fun b hb => .inr hb, fun b hb => hb.elim (fun h => Nat.lt_of_lt_of_le (m.lt b h) hpr.size) (hFl b)⟩,
    ⟨⟨hpr.os, hpr.tape, hpr.output, hpr.size, fun b hb => hpr.block b (m.lt b hb)⟩, hFd, fun b hb => .inl hb, fun b hb => (hFn b hb).imp (fun h => h) (fun h hx => by have := m.lt b hx; omega), hgo⟩⟩
  · by_cases h : nid ≤ i ∧ i < nid + ms.length
    · rw [hhigh i h]
      have hb := hblk (i - nid)
      unfold memOf at hb ⊢
      split
      · rename_i sz rows hm
        rw [hm] at hb
        simp only [BlkR] at hb ⊢
        simp only [h, and_self, if_true]
        exact hb
      · trivial
    · rw [hlow i h]
      refine (m.blk i).goes hFd hw hgo (by simp [h]) (fun hc => hpr.block _ ?_)
      exact (m.own i hc).2
  · rcases hown i hi with ⟨h1, h2⟩ | ⟨h1, h2⟩ <;> rcases hown j hj with ⟨k1, k2⟩ | ⟨k1, k2⟩
    · rw [if_neg h1, if_neg k1]; exact m.apart i j hij h2 k2
    · have a1 := (m.own i h2).2
      have a2 := (hnew _ k2).1
      rw [if_neg h1, if_pos k1]
      omega
    · have a1 := (m.own j k2).2
      have a2 := (hnew _ h2).1
      rw [if_pos h1, if_neg k1]
      omega
    · rw [if_pos h1, if_pos k1]
      exact hap _ _ (by omega) h2 k2
  · rcases hown i hi with ⟨h1, h2⟩ | ⟨h1, h2⟩
    · rw [if_neg h1]
      have := m.own i h2
      refine ⟨fun hx => hx.elim this.1 fun hf => (hFn _ hf).elim (fun h => this.1 (m.sub _ h)) (fun h => by omega), Nat.lt_of_lt_of_le this.2 hpr.size⟩
    · rw [if_pos h1]
      obtain ⟨a1, a2, a3⟩ := hnew _ h2
      exact ⟨fun hx => hx.elim (fun h => by have := m.lt _ h; omega) a3, a2⟩

theorem shM_fresh {nid : Nat} {ms : List (Nat × List (List C))} (hf : ∀ id, nid ≤ id → mem id = .un) : ∀ id, nid + ms.length ≤ id → updL mem (shM nid ms) id = .un := fun id hid => by
  rw [shM_get, if_neg (by omega)]; exact hf id (by omega)

theorem sh1_ok {gc : Gs} {nid : Nat} {ms : List (Nat × List (List C))} {v : Value} {p : P1}
    (h : V1 gc F w (memOf ms) v p) : V1 (fun id => if nid ≤ id ∧ id < nid + ms.length then gc (id - nid) else g id) F w (updL mem (shM nid ms)) v (sh1 nid p) := by
  have hin : ∀ id, memOf ms id ≠ .un → id < ms.length := fun id hid => by
    rcases Nat.lt_or_ge id ms.length with h | h
    · exact h
    · exact absurd (by simp [memOf, List.getElem?_eq_none h]) hid
  have hhigh : ∀ id, memOf ms id ≠ .un → updL mem (shM nid ms) (nid + id) = memOf ms id ∧ (nid ≤ nid + id ∧ nid + id < nid + ms.length) := fun id hid => by
    have := hin id hid
    refine ⟨?_, by omega⟩
    rw [shM_get, if_pos (by omega)]; congr 1; omega
  cases p with
  | top => trivial
  | c x => exact h
  | nil => exact h
  | ms id =>
    have hne : memOf ms id ≠ .un := fun e => by simp [V1, e] at h
    obtain ⟨h1, h2⟩ := hhigh id hne
    simp only [V1, sh1, h1, h2, and_self, if_true, Nat.add_sub_cancel_left] at h ⊢
    exact h
  | ptr id off =>
    have hne : memOf ms id ≠ .un := fun e => by simp [V1, e] at h
    obtain ⟨h1, h2⟩ := hhigh id hne
    simp only [V1, sh1, h1, h2, and_self, if_true, Nat.add_sub_cancel_left] at h ⊢
    exact h
  | ep id i off =>
    have hne : memOf ms id ≠ .un := fun e => by simp [V1, e] at h
    obtain ⟨h1, h2⟩ := hhigh id hne
    simp only [V1, sh1, h1, h2, and_self, if_true, Nat.add_sub_cancel_left] at h ⊢
    exact h
  | fp row off => exact h
  | fn f cap =>
    obtain ⟨cs, h1, h2, h3⟩ := h
    refine ⟨cs, h1, by simpa using h2, fun i p hp => ?_⟩
    simp only [List.getElem?_map, Option.map_eq_some_iff] at hp
    obtain ⟨q, hq, rfl⟩ := hp
    have := h3 i q hq
    have hne : memOf ms q.1 ≠ .un := fun e => by simp [e] at this
    obtain ⟨e1, e2⟩ := hhigh q.1 hne
    simp only [e1, e2, and_self, if_true, Nat.add_sub_cancel_left]
    exact this
  | anyb => exact h

theorem shV0_ok {gc : Gs} {nid : Nat} {ms : List (Nat × List (List C))} {v : Value} {p : PV}
    (h : V0 gc F w (memOf ms) v p) : V0 (fun id => if nid ≤ id ∧ id < nid + ms.length then gc (id - nid) else g id) F w (updL mem (shM nid ms)) v (sh0 nid p) := by
  cases p with
  | one p => exact sh1_ok h
  | agg xs =>
    obtain ⟨vs, h1, h2, h3⟩ := h
    refine ⟨vs, h1, by simpa using h2, fun i p hp => ?_⟩
    simp only [List.getElem?_map, Option.map_eq_some_iff] at hp
    obtain ⟨q, hq, rfl⟩ := hp
    obtain ⟨u, hu, h4⟩ := h3 i q hq
    exact ⟨u, hu, sh1_ok h4⟩
  | tup xs => exact h

theorem shV_ok {gc : Gs} {nid : Nat} {ms : List (Nat × List (List C))} {v : Value} {p : PV}
    (h : VR gc F w (memOf ms) v p) : VR (fun id => if nid ≤ id ∧ id < nid + ms.length then gc (id - nid) else g id) F w (updL mem (shM nid ms)) v (shV nid p) := by
  cases p with
  | one p => exact shV0_ok (p := .one p) h
  | agg xs => exact shV0_ok (p := .agg xs) h
  | tup xs =>
    obtain ⟨vs, h1, h2, h3⟩ := h
    refine ⟨vs, h1, by simpa using h2, fun i p hp => ?_⟩
    simp only [List.getElem?_map, Option.map_eq_some_iff] at hp
    obtain ⟨q, hq, rfl⟩ := hp
    obtain ⟨u, hu, h4⟩ := h3 i q hq
    exact ⟨u, hu, shV0_ok h4⟩

/-- The data of an argument. 'G': what it leads to. -/
theorem dat1_ok {G : Nat → Prop} {p q : P1} {v : Value} (m : MR g F X w mem) (h : dat1 mem p = some q) (hv : V1 g F w mem v p) (hFG : ∀ b, F b → G b)
    (hG : ∀ id sz rows, p = .ms id → mem id = .arr sz rows → RepC G w (hdr (g id) rows.length) (.lst rows)) : V1 g0 G w mem0 v q := by
  have key : ∀ x, toC1 mem p = some x → RepC G w v x := fun x hx => by
    by_cases hfz : ∃ id sz rows, p = .ms id ∧ mem id = .arr sz rows
    · obtain ⟨id, sz, rows, rfl, hm⟩ := hfz
      simp only [toC1, hm] at hx
      cases hx
      simp only [V1, hm] at hv
      subst hv
      exact hG id sz rows rfl hm
    · exact (toC1_nil_len hx hv m (fun id sz rows hp hm => hfz ⟨id, sz, rows, hp, hm⟩)).mono hFG (fun _ _ => rfl)
  unfold dat1 at h
  split at h
  · rename_i f
    cases h
    obtain ⟨cs, h1, h2, h3⟩ := hv
    exact ⟨cs, h1, h2, fun i p hp => by simp at hp⟩
  · cases h; trivial
  · simp only [Option.map_eq_some_iff] at h
    obtain ⟨x, hx, rfl⟩ := h
    exact key x hx

theorem datL_get : ∀ {ps qs : List P1}, datL mem ps = some qs → qs.length = ps.length ∧ ∀ (i : Nat) (p q : P1), ps[i]? = some p → qs[i]? = some q → dat1 mem p = some q
  | [], qs, h => by cases h; exact ⟨rfl, fun i p q hp => by simp at hp⟩
  | p :: ps, qs, h => by
    simp only [datL] at h
    split at h
    · rename_i q qs' h1 h2
      cases h
      obtain ⟨k1, k2⟩ := datL_get h2
      refine ⟨by simp [k1], fun i a b ha hb => ?_⟩
      cases i with
      | zero => simp at ha hb; subst ha hb; exact h1
      | succ i => exact k2 i a b (by simpa using ha) (by simpa using hb)
    · cases h

theorem datA_get : ∀ {ps qs : List PV}, datA mem ps = some qs → qs.length = ps.length ∧ ∀ (i : Nat) (p q : PV), ps[i]? = some p → qs[i]? = some q → datV mem p = some q
  | [], qs, h => by cases h; exact ⟨rfl, fun i p q hp => by simp at hp⟩
  | p :: ps, qs, h => by
    simp only [datA] at h
    split at h
    · rename_i q qs' h1 h2
      cases h
      obtain ⟨k1, k2⟩ := datA_get h2
      refine ⟨by simp [k1], fun i a b ha hb => ?_⟩
      cases i with
      | zero => simp at ha hb; subst ha hb; exact h1
      | succ i => exact k2 i a b (by simpa using ha) (by simpa using hb)
    · cases h

theorem datV_ok {G : Nat → Prop} {p q : PV} {v : Value} (m : MR g F X w mem) (h : datV mem p = some q) (hv : VR g F w mem v p) (hFG : ∀ b, F b → G b)
    (hG : ∀ id sz rows, P1.ms id ∈ p.cells → mem id = .arr sz rows → RepC G w (hdr (g id) rows.length) (.lst rows)) : VR g0 G w mem0 v q := by
  cases p with
  | one p =>
    simp only [datV, Option.map_eq_some_iff] at h
    obtain ⟨q', hq, rfl⟩ := h
    exact dat1_ok m hq hv hFG (fun id sz rows hp hm => hG id sz rows (by simp [PV.cells, hp]) hm)
  | agg xs =>
    simp only [datV, Option.map_eq_some_iff] at h
    obtain ⟨ys, hy, rfl⟩ := h
    obtain ⟨k1, k2⟩ := datL_get hy
    obtain ⟨vs, rfl, hs, hc⟩ := hv
    refine ⟨vs, rfl, by omega, fun i q hq => ?_⟩
    have hlt : i < xs.length := by rw [← k1]; exact (List.getElem?_eq_some_iff.1 hq).1
    obtain ⟨u, hu, h1⟩ := hc i xs[i] (by simp [hlt])
    exact ⟨u, hu, dat1_ok m (k2 i xs[i] q (by simp [hlt]) hq) h1 hFG (fun id sz rows hp hm => hG id sz rows (by simp only [PV.cells]; rw [← hp]; simp) hm)⟩
  | tup xs => cases h

theorem cellsL_mem {ps : List PV} {p : PV} {x : P1} (hp : p ∈ ps) (hx : x ∈ p.cells) : x ∈ cellsL ps := by
  induction ps with
  | nil => simp at hp
  | cons q qs ih =>
    simp only [cellsL, List.mem_append]
    rcases List.mem_cons.1 hp with rfl | hp
    · exact .inl hx
    · exact .inr (ih hp)

/-- Arrays are frozen, whatever else stands among the values. -/
theorem freezeAll : ∀ (ps : List P1) (mem : Mem) (F X : Nat → Prop), MR g F X w mem →
    ∃ F' X', MR g F' X' w (updL mem (frzL mem ps)) ∧ Ext g F X w mem g F' X' w (updL mem (frzL mem ps)) ∧
      ∀ id sz rows, P1.ms id ∈ ps → mem id = .arr sz rows → RepC F' w (hdr (g id) rows.length) (.lst rows)
  | [], mem, F, X, m => ⟨F, X, m, Ext.refl _ _ _ _ _, fun id sz rows h => by simp at h⟩
  | p :: ps, mem, F, X, m => by
    by_cases hfz : ∃ id sz rows, p = .ms id ∧ mem id = .arr sz rows
    · obtain ⟨id, sz, rows, rfl, hid⟩ := hfz
      obtain ⟨F1, X1, m1, e1, hr1⟩ := m.freeze hid
      have hfr : frzL mem (.ms id :: ps) = (id, .frz rows) :: frzL (upd mem id (.frz rows)) ps := by simp [frzL, hid]
      rw [hfr]
      obtain ⟨F2, X2, m2, e2, hr2⟩ := freezeAll ps (upd mem id (.frz rows)) F1 X1 m1
      refine ⟨F2, X2, m2, e1.trans e2, fun id' sz' rows' hin hm => ?_⟩
      by_cases he : id' = id
      · subst he
        rw [hid] at hm; cases hm
        exact hr1.mono e2.hF (fun b hb => e2.pr.block b (m1.sub b hb))
      · rcases List.mem_cons.1 hin with h | h
        · cases h; exact absurd rfl he
        · exact hr2 id' sz' rows' h (by rw [upd_ne _ _ he]; exact hm)
    · have hfr : frzL mem (p :: ps) = frzL mem ps := by
        cases p with
        | ms id =>
          simp only [frzL]
          split
          · rename_i sz rows h; exact absurd ⟨_, _, _, rfl, h⟩ hfz
          · rfl
        | _ => rfl
      rw [hfr]
      obtain ⟨F2, X2, m2, e2, hr2⟩ := freezeAll ps mem F X m
      refine ⟨F2, X2, m2, e2, fun id' sz' rows' hin hm => ?_⟩
      rcases List.mem_cons.1 hin with h | h
      · subst h; exact absurd ⟨_, _, _, rfl, hm⟩ hfz
      · exact hr2 id' sz' rows' h hm

/-- A call by a contract whose result is flat: nothing is frozen. -/
theorem con_flat {fid : FuncId} {nid : Nat} {args args' : List PV} {Q : PV → List (Nat × List (List C)) → Prop} (hc : Con P fid args' Q)
    (hd : datA mem args = some args') (hQ : ∀ r ms, Q r ms → (flatV r = true ∧ flatM ms = true) ∧ ∀ id, nid ≤ id → id < nid + ms.length → mem id = .un) (vs : List Value)
    (m : MR g F X w mem) (hv : VRs g F w mem vs args) :
    Calls P fid vs.toArray w fun e w' => ∃ v r ms g' F' X', e = .returned v ∧ Q r ms ∧ MR g' F' X' w' (updL mem (shM nid ms)) ∧
        VR g' F' w' (updL mem (shM nid ms)) v (shV nid r) ∧ Ext g F X w mem g' F' X' w' (updL mem (shM nid ms)) := by
  obtain ⟨k1, k2⟩ := datA_get hd
  let G : Nat → Prop := fun b => b < w.heap.size
  have hG : ∀ id sz rows, mem id = .arr sz rows → RepC G w (hdr (g id) rows.length) (.lst rows) := fun id sz rows hm => by
    obtain ⟨F1, X1, m1, e1, hr⟩ := m.freeze hm
    exact hr.mono (fun b hb => m1.lt b (m1.sub b hb)) (fun _ _ => rfl)
  have hargs : VRs g0 G w mem0 vs args' := ⟨by rw [hv.1, k1], fun i v q hvi hqi => by
    have hlt : i < args.length := by rw [← k1]; exact (List.getElem?_eq_some_iff.1 hqi).1
    exact datV_ok m (k2 i args[i] q (by simp [hlt]) hqi) (hv.2 i v args[i] hvi (by simp [hlt])) (fun b hb => m.lt b (m.sub b hb)) (fun id sz rows _ hm => hG id sz rows hm)⟩
  refine Calls.mono (hc.2 G w vs (fun b hb => hb) hargs) ?_
  rintro e w' ⟨v, r, ms, gc, Fc, rfl, hq, hm, hvr, hpr, hFd, hFn, hnew⟩
  obtain ⟨⟨hf1, hf2⟩, hf⟩ := hQ r ms hq
  have hrep1 : ∀ (u : Value) (p : P1), flat1 p = true → V1 gc Fc w' (memOf ms) u p → V1 gc F w' (memOf ms) u p := fun u p hp hu => by
    cases p with
    | c x => exact RepC.flat hu hp
    | fp row off => cases hp
    | _ => exact hu
  have hrep0 : ∀ (u : Value) (p : PV), flat0 p = true → V0 gc Fc w' (memOf ms) u p → V0 gc F w' (memOf ms) u p := fun u p hp hu => by
    cases p with
    | one p => exact hrep1 u p hp hu
    | agg xs =>
      obtain ⟨vs, h1, h2, h3⟩ := hu
      refine ⟨vs, h1, h2, fun i p hpi => ?_⟩
      obtain ⟨u, hu, h4⟩ := h3 i p hpi
      exact ⟨u, hu, hrep1 u p (List.all_eq_true.1 hp p (List.mem_of_getElem? hpi)) h4⟩
    | tup xs => exact hu
  have hvr' : VR gc F w' (memOf ms) v r := by
    cases r with
    | one p => exact hrep0 v (.one p) hf1 hvr
    | agg xs => exact hrep0 v (.agg xs) hf1 hvr
    | tup xs =>
      obtain ⟨vs, h1, h2, h3⟩ := hvr
      refine ⟨vs, h1, h2, fun i p hpi => ?_⟩
      obtain ⟨u, hu, h4⟩ := h3 i p hpi
      exact ⟨u, hu, hrep0 u p (List.all_eq_true.1 hf1 p (List.mem_of_getElem? hpi)) h4⟩
  have hblk : ∀ k, BlkR gc F w' (memOf ms) k (memOf ms k) := fun k => by
    have hb := hm.blk k
    cases hk : ms[k]? with
    | none => simp [memOf, hk, BlkR]
    | some q =>
      obtain ⟨sz, rows⟩ := q
      simp only [memOf, hk] at hb ⊢
      obtain ⟨h0, h1⟩ := hb
      refine ⟨h0, h1.imp (fun h => h) ?_⟩
      rintro ⟨a1, a2, cells, t, a3, a4, a5⟩
      refine ⟨a1, a2, cells, t, a3, a4, fun i j r x hr hx => ?_⟩
      obtain ⟨u, hu, hrep⟩ := a5 i j r x hr hx
      have hfl := List.all_eq_true.1 (List.all_eq_true.1 (List.all_eq_true.1 hf2 _ (List.mem_of_getElem? hk)) r (List.mem_of_getElem? hr)) x (List.mem_of_getElem? hx)
      exact ⟨u, hu, RepC.flat hrep hfl⟩
  obtain ⟨m', e'⟩ := m.join (gc := gc) (Fd := F) (nid := nid) (ms := ms) hf hpr (fun _ h => h) (fun _ h => .inl h) (fun b hb => Nat.lt_of_lt_of_le (m.lt b (m.sub b hb)) hpr.size) hblk hm.apart
    (fun k hk => ⟨hnew k hk, (hm.own k hk).2, fun hF => by have := m.lt _ (m.sub _ hF); have := hnew k hk; omega⟩)
  exact ⟨v, r, ms, _, _, _, rfl, hq, m', shV_ok hvr', e'⟩

/-- No own array is named. -/
def noMs (mem : Mem) : P1 → Bool
  | .ms id => match mem id with
    | .arr _ _ => false
    | _ => true
  | _ => true

/-- A call by a contract that is handed data alone: nothing is frozen. -/
theorem con_data {fid : FuncId} {nid : Nat} {args args' : List PV} {Q : PV → List (Nat × List (List C)) → Prop} (hc : Con P fid args' Q)
    (hd : datA mem args = some args') (hno : (cellsL args).all (noMs mem) = true) (hQ : ∀ r ms, Q r ms → ∀ id, nid ≤ id → id < nid + ms.length → mem id = .un) (vs : List Value)
    (m : MR g F X w mem) (hv : VRs g F w mem vs args) :
    Calls P fid vs.toArray w fun e w' => ∃ v r ms g' F' X', e = .returned v ∧ Q r ms ∧ MR g' F' X' w' (updL mem (shM nid ms)) ∧
        VR g' F' w' (updL mem (shM nid ms)) v (shV nid r) ∧ Ext g F X w mem g' F' X' w' (updL mem (shM nid ms)) := by
  obtain ⟨k1, k2⟩ := datA_get hd
  have hargs : VRs g0 F w mem0 vs args' := ⟨by rw [hv.1, k1], fun i v q hvi hqi => by
    have hlt : i < args.length := by rw [← k1]; exact (List.getElem?_eq_some_iff.1 hqi).1
    exact datV_ok m (k2 i args[i] q (by simp [hlt]) hqi) (hv.2 i v args[i] hvi (by simp [hlt])) (fun b hb => hb) (fun id sz rows hin hm => by
      have := List.all_eq_true.1 hno _ (cellsL_mem (by simp) hin)
      simp [noMs, hm] at this)⟩
  refine Calls.mono (hc.2 F w vs (fun b hb => m.lt b (m.sub b hb)) hargs) ?_
  rintro e w' ⟨v, r, ms, gc, Fc, rfl, hQr, hm, hvr, hpr, hFd, hFn, hnew⟩
  obtain ⟨m', e'⟩ := m.join (gc := gc) (Fd := Fc) (nid := nid) (ms := ms) (hQ r ms hQr) hpr hFd hFn (fun b hb => hm.lt b hb) hm.blk hm.apart
    (fun k hk => ⟨hnew k hk, (hm.own k hk).2, (hm.own k hk).1⟩)
  exact ⟨v, r, ms, _, _, _, rfl, hQr, m', shV_ok hvr, e'⟩

theorem scall_flat {fid : FuncId} {nid : Nat} {args args' : List PV} {Q : PV → List (Nat × List (List C)) → Prop} {K : PV → Mem → Nat → Prop} (hc : Con P fid args' Q)
    (hd : datA mem args = some args') (hK : ∀ r ms, Q r ms → (flatV r = true ∧ flatM ms = true) ∧ K (shV nid r) (updL mem (shM nid ms)) (nid + ms.length)) :
    SCall P (.one (.fn fid [])) args mem nid K := by
  refine ⟨hc.1, fun g F X w vs m hf hv => ?_⟩
  simp only [List.map_nil, List.append_nil] at hv
  refine Calls.mono (con_flat (nid := nid) hc hd (fun r ms hq => ⟨(hK r ms hq).1, fun id h _ => hf id h⟩) vs m hv) ?_
  rintro e w' ⟨v, r, ms, g', F', X', rfl, hq, m', hvr, e'⟩
  exact ⟨v, shV nid r, _, nid + ms.length, g', F', X', rfl, (hK r ms hq).2, m', shM_fresh hf, hvr, e'⟩

/-- A call by a contract: what is handed over is frozen. -/
theorem scall_con {fid : FuncId} {nid : Nat} {args args' : List PV} {Q : PV → List (Nat × List (List C)) → Prop} {K : PV → Mem → Nat → Prop} (hc : Con P fid args' Q)
    (hd : datA mem args = some args') (hK : ∀ r ms, Q r ms → K (shV nid r) (updL (updL mem (frzL mem (cellsL args))) (shM nid ms)) (nid + ms.length)) :
    SCall P (.one (.fn fid [])) args mem nid K := by
  refine ⟨hc.1, fun g F X w vs m hf hv => ?_⟩
  simp only [List.map_nil, List.append_nil] at hv
  obtain ⟨k1, k2⟩ := datA_get hd
  obtain ⟨F1, X1, m1, e1, hrep⟩ := freezeAll (cellsL args) mem F X m
  have hf1 : ∀ id, nid ≤ id → updL mem (frzL mem (cellsL args)) id = .un := fun id hid => frzL_un _ _ _ (hf id hid)
  have hargs : VRs g0 F1 w mem0 vs args' := ⟨by rw [hv.1, k1], fun i v q hvi hqi => by
    have hlt : i < args.length := by rw [← k1]; exact (List.getElem?_eq_some_iff.1 hqi).1
    exact datV_ok m (k2 i args[i] q (by simp [hlt]) hqi) (hv.2 i v args[i] hvi (by simp [hlt])) e1.hF (fun id sz rows hin hm => hrep id sz rows (cellsL_mem (by simp) hin) hm)⟩
  refine Calls.mono (hc.2 F1 w vs (fun b hb => m1.lt b (m1.sub b hb)) hargs) ?_
  rintro e w' ⟨v, r, ms, gc, Fc, rfl, hQ, hm, hvr, hpr, hFd, hFn, hnew⟩
  obtain ⟨m', e'⟩ := m1.join (gc := gc) (Fd := Fc) (nid := nid) (ms := ms) (fun id h _ => hf1 id h) hpr hFd hFn (fun b hb => hm.lt b hb) hm.blk hm.apart
    (fun k hk => ⟨hnew k hk, (hm.own k hk).2, (hm.own k hk).1⟩)
  exact ⟨v, shV nid r, _, nid + ms.length, _, _, _, rfl, hK r ms hQ, m', shM_fresh hf1, shV_ok hvr, e1.trans e'⟩

end Go.Proofs.K
/- Loops: at each round's head the state is brought into one form. -/
namespace Go.Proofs.K
open Go Go.RowKit

variable {P : Program} {keep sz : Nat} {g g' : Gs} {F X F' X' : Nat → Prop} {w w' : World} {st : St} {a : Act} {mem : Mem}

/-- Names: the new one, the elder one. -/
abbrev Ren := List (Nat × Nat)

def toNew : Ren → Nat → Option Nat
  | [], _ => none
  | (k, o) :: l, i => if o = i then some k else toNew l i
def toOld : Ren → Nat → Option Nat
  | [], _ => none
  | (k, o) :: l, i => if k = i then some o else toOld l i

def renCap (ρ : Ren) : List (Nat × Nat) → Option (List (Nat × Nat))
  | [] => some []
  | (id, off) :: cs => match toNew ρ id, renCap ρ cs with
    | some k, some l => some ((k, off) :: l)
    | _, _ => none

def ren1 (ρ : Ren) : P1 → P1
  | .ms id => match toNew ρ id with
    | some k => .ms k
    | none => .top
  | .ptr id off => match toNew ρ id with
    | some k => .ptr k off
    | none => .top
  | .ep id i off => match toNew ρ id with
    | some k => .ep k i off
    | none => .top
  | .fn f cap => match renCap ρ cap with
    | some l => .fn f l
    | none => .top
  | p => p
def ren0 (ρ : Ren) : PV → PV
  | .one p => .one (ren1 ρ p)
  | .agg xs => .agg (xs.map (ren1 ρ))
  | .tup zs => .tup zs
def renV (ρ : Ren) : PV → PV
  | .one p => .one (ren1 ρ p)
  | .agg xs => .agg (xs.map (ren1 ρ))
  | .tup xs => .tup (xs.map (ren0 ρ))
def renO (ρ : Ren) : List ((Nat × Nat) × P1) → List ((Nat × Nat) × P1)
  | [] => []
  | (a, p) :: l => (a, ren1 ρ p) :: renO ρ l
def renB (ρ : Ren) : Blk → Blk
  | .box cs => .box (cs.map (ren1 ρ))
  | .arx sz rows ov => .arx sz rows (renO ρ ov)
  | .arz sz n zs => .arz sz n (zs.map (ren1 ρ))
  | b => b

def ids1 : P1 → List Nat
  | .ms id => [id]
  | .ptr id _ => [id]
  | .ep id _ _ => [id]
  | .fn _ cap => cap.map (·.1)
  | _ => []
def idsL : List P1 → List Nat
  | [] => []
  | p :: ps => ids1 p ++ idsL ps
def idsO : List ((Nat × Nat) × P1) → List Nat
  | [] => []
  | (_, p) :: l => ids1 p ++ idsO l
def idsS (env : Env) : List Nat → List Nat
  | [] => []
  | s :: ss => idsL (env s).cells ++ idsS env ss
def isLive : Blk → Bool
  | .box _ => true
  | .arr _ _ => true
  | .frz _ => true
  | .arx _ _ _ => true
  | .arz _ _ _ => true
  | _ => false
def boxIds (mem : Mem) : List Nat → List Nat
  | [] => []
  | i :: is => match mem i with
    | .box cs => idsL cs ++ boxIds mem is
    | .arx _ _ ov => idsO ov ++ boxIds mem is
    | _ => boxIds mem is
/-- Names are handed out in the order in which they are met. -/
def name (mem : Mem) : List Nat → Ren → Nat → Ren × Nat
  | [], ρ, n => (ρ, n)
  | i :: is, ρ, n => match toNew ρ i with
    | some _ => name mem is ρ n
    | none => if isLive (mem i) then name mem is (ρ ++ [(n, i)]) (n + 1) else name mem is ρ n
def lowR (mem : Mem) : Nat → Ren
  | 0 => []
  | k + 1 => if isLive (mem k) then lowR mem k ++ [(k, k)] else lowR mem k
def autoR (keep : Nat) (slots : List Nat) (st : St) : Ren × Nat :=
  let r0 := name st.mem (idsS st.env slots) (lowR st.mem keep) keep
  let r1 := name st.mem (boxIds st.mem (r0.1.map (·.2))) r0.1 r0.2
  name st.mem (boxIds st.mem (r1.1.map (·.2))) r1.1 r1.2

def envL (ρ : Ren) (env : Env) : List Nat → List (Nat × PV)
  | [] => []
  | s :: ss => (s, renV ρ (env s)) :: envL ρ env ss
def memL (ρ : Ren) (mem : Mem) : Ren → List (Nat × Blk)
  | [] => []
  | (k, o) :: l => (k, renB ρ (mem o)) :: memL ρ mem l

structure Canon where
  env : List (Nat × PV)
  mem : List (Nat × Blk)
  nid : Nat

def norm (keep : Nat) (slots : List Nat) (st : St) : Canon :=
  let r := autoR keep slots st
  ⟨envL r.1 st.env slots, memL r.1 st.mem r.1, r.2⟩

def envOf : List (Nat × PV) → Env
  | [], _ => .one .top
  | (s, p) :: l, t => if t = s then p else envOf l t
def memK (keep : Nat) : List (Nat × Blk) → Mem
  | [], i => if i < keep then .dead else .un
  | (k, b) :: l, i => if i = k then b else memK keep l i
def stOf (keep : Nat) (c : Canon) : St := ⟨envOf c.env, memK keep c.mem, c.nid⟩

structure RenOk (keep n : Nat) (mem : Mem) (ρ : Ren) : Prop where
  nd1 : (ρ.map (·.1)).Nodup
  nd2 : (ρ.map (·.2)).Nodup
  lt : ∀ p ∈ ρ, p.1 < n
  live : ∀ p ∈ ρ, isLive (mem p.2) = true
  low : ∀ p ∈ ρ, p.1 < keep → p.1 = p.2
  low' : ∀ k, k < keep → isLive (mem k) = true → (k, k) ∈ ρ
  kn : keep ≤ n

theorem toNew_none {ρ : Ren} {i : Nat} (h : toNew ρ i = none) : ∀ p ∈ ρ, p.2 ≠ i := by
  induction ρ with
  | nil => intro p hp; simp at hp
  | cons q l ih =>
    obtain ⟨k, o⟩ := q
    simp only [toNew] at h
    split at h
    · cases h
    · rename_i hne
      intro p hp
      rcases List.mem_cons.1 hp with rfl | hp
      · exact hne
      · exact ih h p hp
theorem toNew_some {ρ : Ren} {i k : Nat} (h : toNew ρ i = some k) : (k, i) ∈ ρ := by
  induction ρ with
  | nil => cases h
  | cons q l ih =>
    obtain ⟨k', o⟩ := q
    simp only [toNew] at h
    split at h
    · rename_i e; cases h; subst e; simp
    · exact List.mem_cons_of_mem _ (ih h)
theorem toOld_mem {ρ : Ren} {i k : Nat} (hnd : (ρ.map (·.1)).Nodup) (h : (k, i) ∈ ρ) : toOld ρ k = some i := by
  induction ρ with
  | nil => simp at h
  | cons q l ih =>
    obtain ⟨k', o⟩ := q
    simp only [List.map_cons, List.nodup_cons, List.mem_map, not_exists] at hnd
    simp only [toOld]
    rcases List.mem_cons.1 h with h | h
    · cases h; simp
    · have : k' ≠ k := fun e => hnd.1 (k, i) ⟨h, e.symm⟩
      rw [if_neg this]
      exact ih hnd.2 h
theorem toOld_some {ρ : Ren} {i k : Nat} (h : toOld ρ k = some i) : (k, i) ∈ ρ := by
  induction ρ with
  | nil => cases h
  | cons q l ih =>
    obtain ⟨k', o⟩ := q
    simp only [toOld] at h
    split at h
    · rename_i e; cases h; subst e; simp
    · exact List.mem_cons_of_mem _ (ih h)

theorem name_ok : ∀ (is : List Nat) (ρ : Ren) (n : Nat), RenOk keep n mem ρ → RenOk keep (name mem is ρ n).2 mem (name mem is ρ n).1
  | [], ρ, n, h => h
  | i :: is, ρ, n, h => by
    simp only [name]
    split
    · exact name_ok is ρ n h
    · rename_i hnone
      split
      · rename_i hl
        refine name_ok is _ _ ⟨?_, ?_, fun p hp => ?_, fun p hp => ?_, fun p hp hk => ?_, fun k hk hl => List.mem_append_left _ (h.low' k hk hl), Nat.le_succ_of_le h.kn⟩
        · rw [List.map_append, List.nodup_append]
          refine ⟨h.nd1, by simp, fun a ha b hb => ?_⟩
          simp at hb; subst hb
          obtain ⟨p, hp, rfl⟩ := List.mem_map.1 ha
          have := h.lt p hp; omega
        · rw [List.map_append, List.nodup_append]
          refine ⟨h.nd2, by simp, fun a ha b hb => ?_⟩
          simp at hb; subst hb
          obtain ⟨p, hp, rfl⟩ := List.mem_map.1 ha
          exact toNew_none hnone p hp
        · rcases List.mem_append.1 hp with hp | hp
          · have := h.lt p hp; omega
          · simp at hp; subst hp; simp
        · rcases List.mem_append.1 hp with hp | hp
          · exact h.live p hp
          · simp at hp; subst hp; exact hl
        · rcases List.mem_append.1 hp with hp | hp
          · exact h.low p hp hk
          · simp at hp; subst hp; have := h.kn; simp at hk; omega
      · exact name_ok is ρ n h

theorem lowR_ok (mem : Mem) : ∀ (n : Nat), (∀ p ∈ lowR mem n, p.1 = p.2 ∧ p.1 < n ∧ isLive (mem p.2) = true) ∧ ((lowR mem n).map (·.1)).Nodup ∧ (∀ k, k < n → isLive (mem k) = true → (k, k) ∈ lowR mem n)
  | 0 => ⟨fun p hp => by simp [lowR] at hp, by simp [lowR], fun k hk => by omega⟩
  | n + 1 => by
    obtain ⟨h1, h2, h3⟩ := lowR_ok mem n
    simp only [lowR]
    split
    · rename_i hl
      refine ⟨fun p hp => ?_, ?_, fun k hk hkl => ?_⟩
      · rcases List.mem_append.1 hp with hp | hp
        · obtain ⟨a, b, c⟩ := h1 p hp; exact ⟨a, by omega, c⟩
        · simp at hp; subst hp; exact ⟨rfl, by simp, hl⟩
      · rw [List.map_append, List.nodup_append]
        refine ⟨h2, by simp, fun a ha b hb => ?_⟩
        simp at hb; subst hb
        obtain ⟨p, hp, rfl⟩ := List.mem_map.1 ha
        have := (h1 p hp).2.1; omega
      · by_cases e : k = n
        · subst e; simp
        · exact List.mem_append_left _ (h3 k (by omega) hkl)
    · rename_i hl
      refine ⟨fun p hp => by obtain ⟨a, b, c⟩ := h1 p hp; exact ⟨a, by omega, c⟩, h2, fun k hk hkl => ?_⟩
      by_cases e : k = n
      · subst e; exact absurd hkl hl
      · exact h3 k (by omega) hkl

theorem autoR_ok (keep : Nat) (slots : List Nat) (st : St) : RenOk keep (autoR keep slots st).2 st.mem (autoR keep slots st).1 := by
  obtain ⟨h1, h2, h3⟩ := lowR_ok st.mem keep
  have hl : RenOk keep keep st.mem (lowR st.mem keep) :=
    ⟨h2, by
      have : (lowR st.mem keep).map (·.2) = (lowR st.mem keep).map (·.1) := List.map_congr_left fun p hp => (h1 p hp).1.symm
      rw [this]; exact h2, fun p hp => (h1 p hp).2.1, fun p hp => (h1 p hp).2.2, fun p hp _ => (h1 p hp).1, h3, Nat.le_refl _⟩
  exact name_ok _ _ _ (name_ok _ _ _ (name_ok _ _ _ hl))

theorem memL_get (ρ0 : Ren) (mem : Mem) (keep : Nat) : ∀ (ρ : Ren) (k : Nat), memK keep (memL ρ0 mem ρ) k = match toOld ρ k with
    | some o => renB ρ0 (mem o)
    | none => if k < keep then .dead else .un
  | [], k => by simp [memL, memK, toOld]
  | (k', o) :: l, k => by
    simp only [memL, memK, toOld]
    by_cases h : k' = k
    · subst h; simp
    · rw [if_neg (Ne.symm h), if_neg h]
      exact memL_get ρ0 mem keep l k

theorem envL_get (ρ : Ren) (env : Env) : ∀ (slots : List Nat) (t : Nat), envOf (envL ρ env slots) t = if t ∈ slots then renV ρ (env t) else .one .top
  | [], t => by simp [envL, envOf]
  | s :: ss, t => by
    simp only [envL, envOf]
    by_cases h : t = s
    · subst h; simp
    · rw [if_neg h, envL_get ρ env ss t]
      simp [h]

/-- The state in its new names. -/
theorem renO_get (ρ : Ren) : ∀ (ov : List ((Nat × Nat) × P1)) (i j : Nat), ovG (renO ρ ov) i j = (ovG ov i j).map (ren1 ρ)
  | [], i, j => rfl
  | ((a, b), p) :: l, i, j => by
    simp only [renO, ovG]
    split
    · rfl
    · exact renO_get ρ l i j

theorem norm_ok {slots : List Nat} (h : SR g F X w sz st a) : ∃ g', SR g' F X w sz (stOf keep (norm keep slots st)) a ∧ ExtK keep g F X w st.mem g' F X w (stOf keep (norm keep slots st)).mem := by
  have hr := autoR_ok keep slots st
  let ρ := (autoR keep slots st).1
  let n := (autoR keep slots st).2
  have hr : RenOk keep n st.mem ρ := hr
  let g' : Gs := fun k => g ((toOld ρ k).getD 0)
  let mem' : Mem := memK keep (memL ρ st.mem ρ)
  have hmem : ∀ k, mem' k = match toOld ρ k with | some o => renB ρ (st.mem o) | none => if k < keep then .dead else .un := fun k => memL_get ρ st.mem keep ρ k
  have hnew : ∀ id k, toNew ρ id = some k → mem' k = renB ρ (st.mem id) ∧ g' k = g id := fun id k hk => by
    have := toOld_mem hr.nd1 (toNew_some hk)
    exact ⟨by rw [hmem, this], by simp [g', this]⟩
  have hcap : ∀ (cap l : List (Nat × Nat)), renCap ρ cap = some l → l.length = cap.length ∧ ∀ (i : Nat) (p : Nat × Nat), l[i]? = some p → ∃ id, cap[i]? = some (id, p.2) ∧ toNew ρ id = some p.1 := by
    intro cap
    induction cap with
    | nil => intro l hl; cases hl; exact ⟨rfl, fun i p hp => by simp at hp⟩
    | cons q cs ih =>
      intro l hl
      obtain ⟨id, off⟩ := q
      simp only [renCap] at hl
      split at hl
      · rename_i k l' h1 h2
        cases hl
        obtain ⟨k1, k2⟩ := ih l' h2
        refine ⟨by simp [k1], fun i p hp => ?_⟩
        cases i with
        | zero => simp at hp; subst hp; exact ⟨id, rfl, h1⟩
        | succ i => exact k2 i p (by simpa using hp)
      · cases hl
  have hren : ∀ (v : Value) (p : P1), V1 g F w st.mem v p → V1 g' F w mem' v (ren1 ρ p) := fun v p hv => by
    cases p with
    | top => trivial
    | c x => exact hv
    | nil => exact hv
    | fp row off => exact hv
    | anyb => exact hv
    | ms id =>
      simp only [ren1]
      split
      · rename_i k hk
        obtain ⟨h1, h2⟩ := hnew id k hk
        simp only [V1, h1, h2] at hv ⊢
        cases hm : st.mem id <;> rw [hm] at hv <;> exact hv
      · trivial
    | ptr id off =>
      simp only [ren1]
      split
      · rename_i k hk
        obtain ⟨h1, h2⟩ := hnew id k hk
        simp only [V1, h1, h2] at hv ⊢
        cases hm : st.mem id <;> rw [hm] at hv <;> exact hv
      · trivial
    | ep id i off =>
      simp only [ren1]
      split
      · rename_i k hk
        obtain ⟨h1, h2⟩ := hnew id k hk
        simp only [V1, h1, h2] at hv ⊢
        cases hm : st.mem id <;> rw [hm] at hv <;> exact hv
      · trivial
    | fn f cap =>
      simp only [ren1]
      split
      · rename_i l hl
        obtain ⟨k1, k2⟩ := hcap cap l hl
        obtain ⟨cs, h1, h2, h3⟩ := hv
        refine ⟨cs, h1, by omega, fun i p hp => ?_⟩
        obtain ⟨id, hid, hk⟩ := k2 i p hp
        obtain ⟨e1, e2⟩ := hnew id p.1 hk
        have := h3 i _ hid
        simp only [e1, e2] at this ⊢
        cases hm : st.mem id <;> rw [hm] at this <;> exact this
      · trivial
  have hren0 : ∀ (v : Value) (p : PV), V0 g F w st.mem v p → V0 g' F w mem' v (ren0 ρ p) := fun v p hv => by
    cases p with
    | one p => exact hren v p hv
    | agg xs =>
      obtain ⟨vs, h1, h2, h3⟩ := hv
      refine ⟨vs, h1, by simpa using h2, fun i p hp => ?_⟩
      simp only [List.getElem?_map, Option.map_eq_some_iff] at hp
      obtain ⟨q, hq, rfl⟩ := hp
      obtain ⟨u, hu, h4⟩ := h3 i q hq
      exact ⟨u, hu, hren u q h4⟩
    | tup xs => exact hv
  have hrenV : ∀ (v : Value) (p : PV), VR g F w st.mem v p → VR g' F w mem' v (renV ρ p) := fun v p hv => by
    cases p with
    | one p => exact hren0 v (.one p) hv
    | agg xs => exact hren0 v (.agg xs) hv
    | tup xs =>
      obtain ⟨vs, h1, h2, h3⟩ := hv
      refine ⟨vs, h1, by simpa using h2, fun i p hp => ?_⟩
      simp only [List.getElem?_map, Option.map_eq_some_iff] at hp
      obtain ⟨q, hq, rfl⟩ := hp
      obtain ⟨u, hu, h4⟩ := h3 i q hq
      exact ⟨u, hu, hren0 u q h4⟩
  have hown : ∀ k, owns g' mem' k = true → ∃ o, toOld ρ k = some o ∧ g' k = g o ∧ owns g st.mem o = true := fun k hk => by
    unfold owns at hk
    rw [hmem] at hk
    cases ho : toOld ρ k with
    | none =>
      rw [ho] at hk
      by_cases hkk : k < keep
      · simp [hkk] at hk
      · simp [hkk] at hk
    | some o =>
      have hg : g' k = g o := by simp [g', ho]
      refine ⟨o, rfl, hg, ?_⟩
      rw [ho] at hk
      unfold owns
      simp only at hk
      cases hm : st.mem o <;> simp only [hm, renB, ownB, hg] at hk <;> first | exact hk | rfl | exact hk.elim | cases hk
  refine ⟨g', ⟨⟨fun k => ?_, fun i j hij hi hj => ?_, fun i hi => ?_, h.mr.sub, h.mr.lt⟩, fun t => ?_, fun id hid => ?_, h.size, h.defers⟩, ⟨Pr.refl _ _, fun _ h => h, fun _ h => h, fun _ h => .inl h, fun id hid => ?_⟩⟩
  · show BlkR g' F w mem' k (mem' k)
    cases ho : toOld ρ k with
    | none =>
      have hmk : mem' k = if k < keep then .dead else .un := by rw [hmem, ho]
      rw [hmk]
      split <;> trivial
    | some o =>
      have hmk : mem' k = renB ρ (st.mem o) := by rw [hmem, ho]
      rw [hmk]
      have hg : g' k = g o := by simp [g', ho]
      have hb := h.mr.blk o
      cases hm : st.mem o with
      | box cs =>
        rw [hm] at hb
        obtain ⟨cells, t, h1, h2, h3⟩ := hb
        refine ⟨cells, t, by rw [hg]; exact h1, by simpa using h2, fun i p hp => ?_⟩
        simp only [List.getElem?_map, Option.map_eq_some_iff] at hp
        obtain ⟨q, hq, rfl⟩ := hp
        obtain ⟨u, hu, h4⟩ := h3 i q hq
        exact ⟨u, hu, hren u q h4⟩
      | arr sz rows => rw [hm] at hb; simp only [renB, BlkR, hg] at hb ⊢; exact hb
      | frz rows => rw [hm] at hb; simp only [renB, BlkR, hg] at hb ⊢; exact hb
      | dead => trivial
      | un => trivial
      | arx sz rows ov =>
        rw [hm] at hb
        obtain ⟨h0, h1, h2, cells, t, h3, h4, h5⟩ := hb
        refine ⟨h0, by rw [hg]; exact h1, by rw [hg]; exact h2, cells, t, by rw [hg]; exact h3, by rw [hg]; exact h4, fun i j r x hr hx => ?_⟩
        obtain ⟨v, hv, h6⟩ := h5 i j r x hr hx
        refine ⟨v, by rw [hg]; exact hv, ?_⟩
        unfold ovR at h6 ⊢
        rw [renO_get]
        cases hq : ovG ov i j with
        | none => rw [hq] at h6; exact h6
        | some p => rw [hq] at h6; exact hren v p h6
      | arz sz n zs =>
        rw [hm] at hb
        obtain ⟨h0, h1, h2, cells, t, h3, h4, h5⟩ := hb
        refine ⟨by simpa using h0, by rw [hg]; exact h1, by rw [hg]; exact h2, cells, t, by rw [hg]; exact h3, by rw [hg]; exact h4, fun i j z hi hz => ?_⟩
        simp only [List.getElem?_map, Option.map_eq_some_iff] at hz
        obtain ⟨q, hq, rfl⟩ := hz
        obtain ⟨v, hv, h6⟩ := h5 i j q hi hq
        exact ⟨v, by rw [hg]; exact hv, hren v q h6⟩
  · obtain ⟨o, h1, h2, h3⟩ := hown i hi
    obtain ⟨o', k1, k2, k3⟩ := hown j hj
    rw [h2, k2]
    refine h.mr.apart o o' (fun e => hij ?_) h3 k3
    subst e
    have a1 := toOld_some h1
    have a2 := toOld_some k1
    -- one elder name has one new name
    have : ∀ (l : Ren), (l.map (·.2)).Nodup → (i, o) ∈ l → (j, o) ∈ l → i = j := by
      intro l
      induction l with
      | nil => intro _ h; simp at h
      | cons q l ih =>
        intro hnd hi hj
        simp only [List.map_cons, List.nodup_cons, List.mem_map, not_exists] at hnd
        rcases List.mem_cons.1 hi with e1 | e1 <;> rcases List.mem_cons.1 hj with e2 | e2
        · rw [← e1] at e2; injection e2 with e2 _; exact e2.symm
        · subst e1; exact absurd ⟨e2, rfl⟩ (hnd.1 (j, o))
        · subst e2; exact absurd ⟨e1, rfl⟩ (hnd.1 (i, o))
        · exact ih hnd.2 e1 e2
    exact this ρ hr.nd2 a1 a2
  · obtain ⟨o, h1, h2, h3⟩ := hown i hi
    rw [h2]
    exact h.mr.own o h3
  · show VR g' F w mem' _ (envOf (envL ρ st.env slots) t)
    rw [envL_get]
    split
    · exact hrenV _ _ (h.env t)
    · trivial
  · show mem' id = .un
    have hid : n ≤ id := hid
    rw [hmem]
    cases ho : toOld ρ id with
    | none => simp only; rw [if_neg (by have := hr.kn; omega)]
    | some o => have := hr.lt _ (toOld_some ho); simp at this; omega
  · show Goes g g' (st.mem id) (mem' id) id
    rw [hmem]
    cases ho : toOld ρ id with
    | none => simp only; rw [if_pos hid]; cases st.mem id <;> trivial
    | some o =>
      have he : id = o := hr.low _ (toOld_some ho) hid
      have hg : g' id = g o := by simp [g', ho]
      subst he
      cases hm : st.mem id <;> simp [renB, Goes, hg, hm]

theorem AW.loop {α : Type} {body : Code} {Q : Exit → St → Prop} (slots : List Nat) (canon : α → Canon) (I : α → Prop) (μ : α → Nat) (x0 : α)
    (h0 : norm keep slots st = canon x0) (hI : I x0)
    (round : ∀ x, I x → awp P keep sz body (stOf keep (canon x)) (thenK Q fun st' => ∃ x', norm keep slots st' = canon x' ∧ I x' ∧ μ x' < μ x)) :
    AW P keep sz (.loop body) st Q := by
  intro g F X w a hsr
  obtain ⟨g1, hsr1, hext1⟩ := norm_ok (keep := keep) (slots := slots) hsr
  rw [h0] at hsr1 hext1
  have := wp_loop_ghost (P := P) (c := body) (a := a) (w := w) (Q := fun e a' w' => ∃ st' g' F' X', Q e st' ∧ SR g' F' X' w' sz st' a' ∧ ExtK keep g F X w st.mem g' F' X' w' st'.mem)
    (fun n a2 w2 => ∃ y g2 F2 X2, μ y = n ∧ I y ∧ SR g2 F2 X2 w2 sz (stOf keep (canon y)) a2 ∧ ExtK keep g F X w st.mem g2 F2 X2 w2 (stOf keep (canon y)).mem) (μ x0)
    ⟨x0, g1, F, X, rfl, hI, hsr1, hext1⟩ ?_
  · exact this
  · rintro n a2 w2 ⟨y, g2, F2, X2, rfl, hy, hs, he⟩
    refine wp_mono (awp_sound _ _ _ (round y hy) g2 F2 X2 w2 a2 hs) ?_
    rintro e a3 w3 ⟨st3, g3, F3, X3, hQ, hs3, he3⟩
    cases e with
    | normal =>
      obtain ⟨x', hn, hI', hlt⟩ := hQ
      obtain ⟨g4, hs4, he4⟩ := norm_ok (keep := keep) (slots := slots) hs3
      rw [hn] at hs4 he4
      exact ⟨μ x', hlt, x', g4, F3, X3, rfl, hI', hs4, (he.trans he3).trans he4⟩
    | exit id => exact ⟨st3, g3, F3, X3, hQ, hs3, he.trans he3⟩
    | goto l => exact ⟨st3, g3, F3, X3, hQ, hs3, he.trans he3⟩
    | ret => exact ⟨st3, g3, F3, X3, hQ, hs3, he.trans he3⟩
    | panic ch => exact ⟨st3, g3, F3, X3, hQ, hs3, he.trans he3⟩
    | outgrown => exact ⟨st3, g3, F3, X3, hQ, hs3, he.trans he3⟩

end Go.Proofs.K
/- An operation hangs on its operands and on the blocks that these name, and on nothing else. -/
namespace Go.Proofs.K
open Go Go.RowKit

def idsV (p : PV) : List Nat := idsL p.cells

/-- The memories agree on these names. -/
def Ag (m m' : Mem) (is : List Nat) : Prop := ∀ i ∈ is, m' i = m i

variable {m m' : Mem}

theorem Ag.left {a b : List Nat} (h : Ag m m' (a ++ b)) : Ag m m' a := fun i hi => h i (List.mem_append_left _ hi)
theorem Ag.right {a b : List Nat} (h : Ag m m' (a ++ b)) : Ag m m' b := fun i hi => h i (List.mem_append_right _ hi)

theorem idsL_append : ∀ (a b : List P1), idsL (a ++ b) = idsL a ++ idsL b
  | [], b => rfl
  | p :: a, b => by simp only [List.cons_append, idsL, idsL_append a b, List.append_assoc]

theorem live1_ag {p : P1} (h : Ag m m' (ids1 p)) : live1 m' p = live1 m p := by
  cases p <;> simp only [live1] <;> (rw [h _ (by simp [ids1])])

theorem all_live_ag : ∀ {ps : List P1}, Ag m m' (idsL ps) → ps.all (live1 m') = ps.all (live1 m)
  | [], _ => rfl
  | p :: ps, h => by simp only [List.all_cons, live1_ag (Ag.left h), all_live_ag (Ag.right h)]

theorem okCells_ag {p : PV} (h : Ag m m' (idsV p)) : okCells m' p = okCells m p := by
  cases p with
  | one p => exact live1_ag (fun i hi => h i (by simp [idsV, PV.cells, idsL, hi]))
  | agg xs => rfl
  | tup xs => rfl

theorem toC1_ag {p : P1} (h : Ag m m' (ids1 p)) : toC1 m' p = toC1 m p := by
  cases p <;> simp only [toC1] <;> (rw [h _ (by simp [ids1])])

theorem rowC_ag : ∀ {ps : List P1}, Ag m m' (idsL ps) → rowC m' ps = rowC m ps
  | [], _ => rfl
  | p :: ps, h => by simp only [rowC, toC1_ag (Ag.left h), rowC_ag (Ag.right h)]

theorem frzL_ag : ∀ (ps : List P1) (m m' : Mem), Ag m m' (idsL ps) → frzL m' ps = frzL m ps
  | [], m, m', h => rfl
  | p :: ps, m, m', h => by
    cases p with
    | ms id =>
      have e : m' id = m id := h id (by simp [idsL, ids1])
      simp only [frzL, e]
      cases hm : m id with
      | arr sz rows =>
        simp only []
        rw [frzL_ag ps (upd m id (.frz rows)) (upd m' id (.frz rows)) (fun i hi => by
          by_cases e2 : i = id
          · subst e2; simp
          · rw [upd_ne _ _ e2, upd_ne _ _ e2]; exact Ag.right h i hi)]
      | _ => exact frzL_ag ps m m' (Ag.right h)
    | _ => exact frzL_ag ps m m' (Ag.right h)

theorem loadF_ag {s : TI} {p : PV} (h : Ag m m' (idsV p)) : loadF s m' p = loadF s m p := by
  unfold loadF
  split
  · rw [h _ (by simp [idsV, PV.cells, idsL, ids1])]
  · rfl
  · rw [h _ (by simp [idsV, PV.cells, idsL, ids1])]
  · rfl

theorem lenF_ag {p : PV} (h : Ag m m' (idsV p)) : lenF m' p = lenF m p := by
  unfold lenF
  split <;> try rfl
  rw [h _ (by simp [idsV, PV.cells, idsL, ids1])]

theorem srcRows_ag {p : PV} (h : Ag m m' (idsV p)) : srcRows m' p = srcRows m p := by
  unfold srcRows
  split <;> try rfl
  rw [h _ (by simp [idsV, PV.cells, idsL, ids1])]

theorem idxF_ag {st : Option (Nat × Nat)} {p q : PV} (h : Ag m m' (idsV p)) : idxF st m' p q = idxF st m p q := by
  unfold idxF
  split <;> try rfl
  rw [h _ (by simp [idsV, PV.cells, idsL, ids1])]

theorem sliceF_ag {d : TI} {st : Option (Nat × Nat)} {p : PV} {lo hi : Option PV} (h : Ag m m' (idsV p)) : sliceF d st m' p lo hi = sliceF d st m p lo hi := by
  unfold sliceF
  split <;> try rfl
  rw [h _ (by simp [idsV, PV.cells, idsL, ids1])]

theorem cutF_ag {st : Option (Nat × Nat)} {nid : Nat} {p : PV} {lo hi : Option PV} (h : Ag m m' (idsV p)) : cutF st m' nid p lo hi = cutF st m nid p lo hi := by
  unfold cutF
  split
  · rename_i id
    have e : m' id = m id := h id (by simp [idsV, PV.cells, idsL, ids1])
    rw [e]
  · rfl
theorem clipF_ag {st : Option (Nat × Nat)} {nid : Nat} {p : PV} {lo hi mx : Option PV} (h : Ag m m' (idsV p)) : clipF st m' nid p lo hi mx = clipF st m nid p lo hi mx := by
  unfold clipF
  split <;> try rfl
  rw [h _ (by simp [idsV, PV.cells, idsL, ids1])]

theorem appF_ag {st st2 : Option (Nat × Nat)} {nid : Nat} {p q : PV} (h : Ag m m' (idsV p ++ idsV q)) : appF st st2 m' nid p q = appF st st2 m nid p q := by
  unfold appF
  rw [srcRows_ag (Ag.right h)]
  split <;> try rfl
  split <;> try rfl
  rw [h _ (by simp [idsV, PV.cells, idsL, ids1])]

theorem storeF_ag {s : TI} {p q : PV} (h : Ag m m' (idsV p ++ idsV q)) : storeF s m' p q = storeF s m p q := by
  have hq := Ag.right h
  unfold storeF
  split
  · rw [h _ (by simp [idsV, PV.cells, idsL, ids1]), all_live_ag hq]
  · rw [h _ (by simp [idsV, PV.cells, idsL, ids1]), rowC_ag hq, frzL_ag _ _ _ hq, okCells_ag hq]
    cases q with
    | one q =>
      have hl : live1 m' q = live1 m q := live1_ag (p := q) (fun i hi => hq i (by simp [idsV, PV.cells, idsL, hi]))
      simp only [hl]
    | _ => rfl
  · rfl

theorem fillP_ag {fs : List (Nat × Nat)} : ∀ {ps : List (Nat × PV)} {cs : List P1}, Ag m m' (idsL (litCells ps)) → fillP fs m' cs ps = fillP fs m cs ps
  | [], cs, h => rfl
  | (i, x) :: ps, cs, h => by
    simp only [litCells, idsL_append] at h
    simp only [fillP]
    rw [okCells_ag (p := x) (Ag.left h)]
    split
    · split
      · exact fillP_ag (Ag.right h)
      · rfl
    · rfl

theorem partsOk_ag {size : Nat} : ∀ {ps : List (Nat × PV)} {k : Nat}, Ag m m' (idsL (litCells ps)) → partsOk m' size k ps = partsOk m size k ps
  | [], k, h => rfl
  | (i, x) :: ps, k, h => by
    simp only [litCells, idsL_append] at h
    simp only [partsOk, okCells_ag (p := x) (Ag.left h), partsOk_ag (Ag.right h)]

theorem litRows_ag : ∀ {ps : List (Nat × PV)}, Ag m m' (idsL (litCells ps)) → litRows m' ps = litRows m ps
  | [], h => rfl
  | (i, x) :: ps, h => by
    simp only [litCells, idsL_append] at h
    simp only [litRows, rowC_ag (Ag.left h), litRows_ag (Ag.right h)]

theorem litF_ag {st : Option (Nat × Nat)} {nid len : Nat} {ps : List (Nat × PV)} (h : Ag m m' (idsL (litCells ps))) : litF st m' nid len ps = litF st m nid len ps := by
  unfold litF
  split
  · rw [partsOk_ag h, litRows_ag h, frzL_ag _ _ _ h]
  · rfl

theorem buildF_ag {s : TI} {ps : List (Nat × PV)} (h : Ag m m' (idsL (litCells ps))) : buildF s m' ps = buildF s m ps := by
  unfold buildF
  split
  · split
    · rw [fillP_ag h]
    · rfl
  · rfl

/-- The names in what the operands hold. -/
def opIds (env : Env) : List Operand → List Nat
  | [] => []
  | x :: xs => idsV (getO env x) ++ opIds env xs

def opTmps : List Operand → List Tmp
  | [] => []
  | .tmp t :: xs => t :: opTmps xs
  | _ :: xs => opTmps xs

def AgE (e e' : Env) (ts : List Tmp) : Prop := ∀ t ∈ ts, e' t = e t

variable {env env' : Env}

theorem getO_ag {x : Operand} (h : AgE env env' (opTmps [x])) : getO env' x = getO env x := by
  cases x with
  | tmp t => exact h t (by simp [opTmps])
  | _ => rfl

theorem opTmps_cons {x : Operand} {xs : List Operand} (h : AgE env env' (opTmps (x :: xs))) : AgE env env' (opTmps [x]) ∧ AgE env env' (opTmps xs) := by
  cases x with
  | tmp t => exact ⟨fun i hi => h i (by simp [opTmps] at hi ⊢; exact .inl hi), fun i hi => h i (by simp [opTmps, hi])⟩
  | const v => exact ⟨fun i hi => by simp [opTmps] at hi, h⟩
  | global g => exact ⟨fun i hi => by simp [opTmps] at hi, h⟩
  | func f => exact ⟨fun i hi => by simp [opTmps] at hi, h⟩

theorem opTmps_append : ∀ {xs ys : List Operand}, opTmps (xs ++ ys) = opTmps xs ++ opTmps ys
  | [], ys => rfl
  | x :: xs, ys => by cases x <;> simp [opTmps, opTmps_append (xs := xs) (ys := ys)]

theorem partsO_ag : ∀ {ps : List (Nat × Operand)}, AgE env env' (opTmps (ps.map (·.2))) → partsO env' ps = partsO env ps
  | [], h => rfl
  | (i, x) :: ps, h => by
    obtain ⟨h1, h2⟩ := opTmps_cons h
    simp only [partsO, getO_ag h1, partsO_ag h2]

theorem litCells_parts : ∀ (ps : List (Nat × Operand)), idsL (litCells (partsO env ps)) = opIds env (ps.map (·.2))
  | [] => rfl
  | (i, x) :: ps => by simp only [partsO, litCells, idsL_append, List.map_cons, opIds, idsV, litCells_parts ps]

theorem argsO_ag : ∀ {xs : List Operand}, AgE env env' (opTmps xs) → argsO env' xs = argsO env xs
  | [], h => rfl
  | x :: xs, h => by
    obtain ⟨h1, h2⟩ := opTmps_cons h
    simp only [argsO, getO_ag h1, argsO_ag h2]

theorem capsO_ag : ∀ {xs : List Operand}, AgE env env' (opTmps xs) → capsO env' xs = capsO env xs
  | [], h => rfl
  | x :: xs, h => by
    obtain ⟨h1, h2⟩ := opTmps_cons h
    simp only [capsO, getO_ag h1, capsO_ag h2]

theorem capsO_ids : ∀ {xs : List Operand} {cs : List (Nat × Nat)}, capsO env xs = some cs → ∀ p ∈ cs, p.1 ∈ opIds env xs
  | [], cs, h => by cases h; simp
  | x :: xs, cs, h => by
    simp only [capsO] at h
    split at h
    · rename_i id off cs' h1 h2
      cases h
      intro p hp
      simp only [opIds, List.mem_append]
      rcases List.mem_cons.1 hp with rfl | hp
      · left; simp [h1, idsV, PV.cells, idsL, ids1]
      · right; exact capsO_ids h2 p hp
    · cases h

theorem all_congr' {α : Type} {l : List α} {p q : α → Bool} (h : ∀ x ∈ l, p x = q x) : l.all p = l.all q := by
  induction l with
  | nil => rfl
  | cons x l ih => simp only [List.all_cons, h x (by simp), ih (fun y hy => h y (by simp [hy]))]

theorem opF_ag {P : Program} {nid : Nat} {op : Op} (he : AgE env env' (opTmps op.operands.toList)) (hm : Ag m m' (opIds env op.operands.toList)) :
    opF P env' m' nid op = opF P env m nid op := by
  have one : ∀ {x : Operand} {xs : List Operand}, op.operands.toList = x :: xs → getO env' x = getO env x ∧ Ag m m' (idsV (getO env x)) ∧ AgE env env' (opTmps xs) ∧ Ag m m' (opIds env xs) := fun {x xs} hx => by
    rw [hx] at he hm
    obtain ⟨h1, h2⟩ := opTmps_cons he
    exact ⟨getO_ag h1, Ag.left hm, h2, Ag.right hm⟩
  have nxt : ∀ {x : Operand} {xs : List Operand}, AgE env env' (opTmps (x :: xs)) → Ag m m' (opIds env (x :: xs)) → getO env' x = getO env x ∧ Ag m m' (idsV (getO env x)) ∧ AgE env env' (opTmps xs) ∧ Ag m m' (opIds env xs) := fun {x xs} h1 h2 => by
    obtain ⟨a, b⟩ := opTmps_cons h1
    exact ⟨getO_ag a, Ag.left h2, b, Ag.right h2⟩
  unfold opF
  split
  · rw [(one rfl).1]
  · rw [(one rfl).1]
  · obtain ⟨a1, _, a2, a3⟩ := one rfl
    obtain ⟨b1, _, b2, b3⟩ := nxt a2 a3
    obtain ⟨c1, _, _, _⟩ := nxt b2 b3
    rw [a1, b1, c1]
  · rfl
  · obtain ⟨a1, a2, _, _⟩ := one rfl
    rw [a1, okCells_ag a2]
  · rename_i t parts
    have hops : (Op.build t parts).operands.toList = parts.toList.map (·.2) := by simp [Op.operands]
    rw [hops] at he hm
    rw [partsO_ag he, buildF_ag (by rw [litCells_parts]; exact hm)]
  · rename_i t len parts
    have hops : (Op.buildSlice t len parts).operands.toList = parts.toList.map (·.2) := by simp [Op.operands]
    rw [hops] at he hm
    rw [partsO_ag he, litF_ag (by rw [litCells_parts]; exact hm)]
  · obtain ⟨a1, a2, _, _⟩ := one rfl
    rw [a1, loadF_ag a2]
  · obtain ⟨a1, a2, a3, a4⟩ := one rfl
    obtain ⟨b1, b2, _, _⟩ := nxt a3 a4
    rw [a1, b1, storeF_ag (fun i hi => (List.mem_append.1 hi).elim (a2 i) (b2 i))]
  · obtain ⟨a1, a2, _, _⟩ := one rfl
    rw [a1]
    split
    · rename_i id off hx
      rw [hx] at a2
      rw [live1_ag (fun i hi => a2 i (by simpa [idsV, PV.cells, idsL] using hi))]
    · rfl
  · obtain ⟨a1, a2, a3, a4⟩ := one rfl
    obtain ⟨b1, b2, _, _⟩ := nxt a3 a4
    rw [a1, b1]
  · rw [(one rfl).1]
  · obtain ⟨a1, a2, _, _⟩ := one rfl
    rw [a1, srcRows_ag a2]
  · rename_i f first captured
    split
    · rename_i hfirst
      have hfe : first = #[] := by simpa using hfirst
      have hops : (Op.makeFunc (.func f) first captured).operands.toList = captured.toList := by simp [Op.operands, hfe]
      rw [hops] at he hm
      rw [capsO_ag he]
      split
      · rename_i cs hcs
        have hall := all_congr' (l := cs) (p := fun p => live1 m' (.ptr p.1 p.2)) (q := fun p => live1 m (.ptr p.1 p.2)) (fun p hp => live1_ag (fun i hi => by
          simp only [ids1, List.mem_singleton] at hi
          subst hi
          exact hm _ (capsO_ids hcs p hp)))
        simp only [hall]
      · rfl
    · rfl
  · obtain ⟨a1, a2, a3, a4⟩ := one rfl
    obtain ⟨b1, b2, _, _⟩ := nxt a3 a4
    rw [a1, b1]
  · rename_i t x lo hi
    cases lo with
    | none =>
      cases hi with
      | none =>
        obtain ⟨a1, a2, r1, r2⟩ := one (x := x) (xs := []) (by simp [Op.operands])
        simp only [mapO]
        rw [a1, sliceF_ag a2, cutF_ag a2]
      | some hi =>
        obtain ⟨a1, a2, r1, r2⟩ := one (x := x) (xs := [hi]) (by simp [Op.operands])
        obtain ⟨b0, _, s0, t0⟩ := nxt r1 r2
        simp only [mapO]
        rw [a1, b0, sliceF_ag a2, cutF_ag a2]
    | some lo =>
      cases hi with
      | none =>
        obtain ⟨a1, a2, r1, r2⟩ := one (x := x) (xs := [lo]) (by simp [Op.operands])
        obtain ⟨b0, _, s0, t0⟩ := nxt r1 r2
        simp only [mapO]
        rw [a1, b0, sliceF_ag a2, cutF_ag a2]
      | some hi =>
        obtain ⟨a1, a2, r1, r2⟩ := one (x := x) (xs := [lo, hi]) (by simp [Op.operands])
        obtain ⟨b0, _, s0, t0⟩ := nxt r1 r2
        obtain ⟨b1, _, s1, t1⟩ := nxt s0 t0
        simp only [mapO]
        rw [a1, b0, b1, sliceF_ag a2, cutF_ag a2]
  · rename_i t x lo hi mx
    cases lo with
    | none =>
      cases hi with
      | none =>
        obtain ⟨a1, a2, r1, r2⟩ := one (x := x) (xs := [mx]) (by simp [Op.operands])
        obtain ⟨b0, _, s0, t0⟩ := nxt r1 r2
        simp only [mapO]
        rw [a1, b0, clipF_ag a2]
      | some hi =>
        obtain ⟨a1, a2, r1, r2⟩ := one (x := x) (xs := [hi, mx]) (by simp [Op.operands])
        obtain ⟨b0, _, s0, t0⟩ := nxt r1 r2
        obtain ⟨b1, _, s1, t1⟩ := nxt s0 t0
        simp only [mapO]
        rw [a1, b0, b1, clipF_ag a2]
    | some lo =>
      cases hi with
      | none =>
        obtain ⟨a1, a2, r1, r2⟩ := one (x := x) (xs := [lo, mx]) (by simp [Op.operands])
        obtain ⟨b0, _, s0, t0⟩ := nxt r1 r2
        obtain ⟨b1, _, s1, t1⟩ := nxt s0 t0
        simp only [mapO]
        rw [a1, b0, b1, clipF_ag a2]
      | some hi =>
        obtain ⟨a1, a2, r1, r2⟩ := one (x := x) (xs := [lo, hi, mx]) (by simp [Op.operands])
        obtain ⟨b0, _, s0, t0⟩ := nxt r1 r2
        obtain ⟨b1, _, s1, t1⟩ := nxt s0 t0
        obtain ⟨b2, _, s2, t2⟩ := nxt s1 t1
        simp only [mapO]
        rw [a1, b0, b1, b2, clipF_ag a2]
  · obtain ⟨a1, a2, _, _⟩ := one rfl
    rw [a1, okCells_ag a2]
  · obtain ⟨a1, a2, a3, a4⟩ := one rfl
    obtain ⟨b1, b2, _, _⟩ := nxt a3 a4
    rw [a1, b1, idxF_ag a2]
  · obtain ⟨a1, a2, a3, a4⟩ := one rfl
    obtain ⟨b1, b2, _, _⟩ := nxt a3 a4
    rw [a1, b1]
  · rw [(one rfl).1]
  · rename_i args argTypes
    split
    · rename_i x t hargs htypes
      have hops : (Op.call { callee := .builtin .len, args, argTypes }).operands.toList = [x] := by simp [Op.operands, Call.operands, hargs]
      obtain ⟨a1, a2, _, _⟩ := one hops
      rw [a1, lenF_ag a2]
    · rfl
  · rename_i args argTypes
    split
    · rename_i x y t u hargs htypes
      have hops : (Op.call { callee := .builtin .append, args, argTypes }).operands.toList = [x, y] := by simp [Op.operands, Call.operands, hargs]
      obtain ⟨a1, a2, a3, a4⟩ := one hops
      obtain ⟨b1, b2, _, _⟩ := nxt a3 a4
      rw [a1, b1, appF_ag (fun i hi => (List.mem_append.1 hi).elim (a2 i) (b2 i))]
    · rfl
  · rename_i args argTypes
    split
    · rename_i x t hargs htypes
      have hops : (Op.call { callee := .builtin .cap, args, argTypes }).operands.toList = [x] := by simp [Op.operands, Call.operands, hargs]
      obtain ⟨a1, a2, _, _⟩ := one hops
      rw [a1]
    · rfl
  · rfl

end Go.Proofs.K
/- A region whose order is open: evaluated once in the order of the text; sound for every order, where what conflicts is ordered. -/
namespace Go.Proofs.K
open Go Go.RowKit

/-! ### Updates of those that have come up -/

def accum {α : Type} (D : Nat → Bool) : Nat → List (List (Nat × α)) → (Nat → α) → (Nat → α)
  | _, [], f => f
  | i, u :: us, f => accum D (i + 1) us (if D i then updL f u else f)

def writes {α : Type} (u : List (Nat × α)) (t : Nat) : Prop := ∃ p ∈ u, p.1 = t

theorem updL_not {α : Type} {u : List (Nat × α)} {t : Nat} (h : ¬ writes u t) (f : Nat → α) : updL f u t = f t :=
  updL_other u f t (fun p hp e => h ⟨p, hp, e⟩)

theorem updL_same {α : Type} : ∀ (u : List (Nat × α)) (t : Nat) (f f' : Nat → α), writes u t ∨ f t = f' t → updL f u t = updL f' u t
  | [], t, f, f', h => by
    rcases h with ⟨p, hp, _⟩ | h
    · simp at hp
    · exact h
  | (i, v) :: u, t, f, f', h => by
    simp only [updL]
    refine updL_same u t _ _ ?_
    by_cases e : i = t
    · right; subst e; simp
    · rcases h with ⟨p, hp, hpt⟩ | h
      · rcases List.mem_cons.1 hp with rfl | hp
        · exact absurd hpt e
        · exact .inl ⟨p, hp, hpt⟩
      · right; rw [upd_ne _ _ (Ne.symm e), upd_ne _ _ (Ne.symm e)]; exact h

theorem accum_agree {α : Type} {D D' : Nat → Bool} {t : Nat} : ∀ (us : List (List (Nat × α))) (i : Nat) (f f' : Nat → α), f t = f' t →
    (∀ j u, us[j]? = some u → writes u t → D (i + j) = D' (i + j)) → accum D i us f t = accum D' i us f' t
  | [], i, f, f', hf, h => hf
  | u :: us, i, f, f', hf, h => by
    simp only [accum]
    refine accum_agree us (i + 1) _ _ ?_ (fun j v hj hw => by have := h (j + 1) v (by simpa using hj) hw; rwa [show i + (j + 1) = i + 1 + j by omega] at this)
    by_cases hw : writes u t
    · have := h 0 u rfl hw
      simp only [Nat.add_zero] at this
      rw [this]
      split
      · exact updL_same u t f f' (.inl hw)
      · exact hf
    · have h1 : (if D i then updL f u else f) t = f t := by split <;> simp [updL_not hw]
      have h2 : (if D' i then updL f' u else f') t = f' t := by split <;> simp [updL_not hw]
      rw [h1, h2, hf]

theorem accum_none {α : Type} {D : Nat → Bool} : ∀ (us : List (List (Nat × α))) {i : Nat} {f : Nat → α}, (∀ j, D j = false) → accum D i us f = f
  | [], i, f, h => rfl
  | u :: us, i, f, h => by simp only [accum, h i]; exact accum_none us h

theorem accum_add {α : Type} {D : Nat → Bool} {k : Nat} {uk : List (Nat × α)} : ∀ (us : List (List (Nat × α))) (i : Nat) (f : Nat → α), i ≤ k → us[k - i]? = some uk → D k = false →
    (∀ t, writes uk t → ∀ j u, us[j]? = some u → k < i + j → D (i + j) = true → ¬ writes u t) →
    accum (fun j => j == k || D j) i us f = updL (accum D i us f) uk
  | [], i, f, hi, hk, hD, h => by simp at hk
  | u :: us, i, f, hi, hk, hD, h => by
    simp only [accum]
    by_cases he : i = k
    · subst he
      simp only [Nat.sub_self, List.getElem?_cons_zero, Option.some.injEq] at hk
      subst hk
      simp only [beq_self_eq_true, Bool.true_or, if_true, hD, Bool.false_eq_true, if_false]
      -- behind k nothing that has come up writes what it writes
      funext t
      have key : ∀ (us : List (List (Nat × α))) (i' : Nat) (f1 f2 : Nat → α), i < i' → f1 t = updL f2 u t → (∀ j v, us[j]? = some v → D (i' + j) = true → writes u t → ¬ writes v t) →
          accum (fun j => j == i || D j) i' us f1 t = updL (accum D i' us f2) u t := by
        intro us
        induction us with
        | nil => intro i' f1 f2 _ hf _; exact hf
        | cons v us ih =>
          intro i' f1 f2 hlt hf hno
          simp only [accum]
          have hbe : (i' == i) = false := by simp; omega
          simp only [hbe, Bool.false_or]
          refine ih (i' + 1) _ _ (by omega) ?_ (fun j v hj hd hw => hno (j + 1) v (by simpa using hj) (by rwa [show i' + (j + 1) = i' + 1 + j by omega]) hw)
          by_cases hd : D i' = true
          · rw [if_pos hd, if_pos hd]
            by_cases hw : writes u t
            · have hnv := hno 0 v rfl (by simpa using hd) hw
              rw [updL_not hnv, hf]
              exact updL_same u t f2 (updL f2 v) (.inl hw)
            · rw [updL_not hw]
              rw [updL_not hw] at hf
              exact updL_same v t f1 f2 (.inr hf)
          · rw [if_neg hd, if_neg hd]; exact hf
      exact key us (i + 1) _ _ (by omega) rfl (fun j v hj hd hw => h t hw (j + 1) v (by simpa using hj) (by omega) (by rwa [show i + (j + 1) = i + 1 + j by omega]))
    · have hlt : i < k := by omega
      have hbe : (i == k) = false := by simp; omega
      simp only [hbe, Bool.false_or]
      have e : k - i = (k - (i + 1)) + 1 := by omega
      rw [e] at hk
      exact accum_add us (i + 1) _ (by omega) (by simpa using hk) hD (fun t ht j v hj hlt hd => h t ht (j + 1) v (by simpa using hj) (by omega) (by rwa [show i + (j + 1) = i + 1 + j by omega]))

/-! ### What waits for what -/

def edges (o : Oper) : List Nat := o.after.toList.filterMap fun e => if Region.binds .any e then some e.on else none

def union (a b : List Nat) : List Nat := b.foldl (fun s x => if s.contains x then s else s ++ [x]) a

def gather (acc : List (List Nat)) : List Nat → List Nat
  | [] => []
  | e :: es => union (union (gather acc es) [e]) (acc.getD e [])

def ancL : List Oper → List (List Nat) → List (List Nat)
  | [], acc => acc
  | o :: os, acc => ancL os (acc ++ [gather acc (edges o)])

theorem mem_union {a b : List Nat} {x : Nat} (h : x ∈ union a b) : x ∈ a ∨ x ∈ b := by
  unfold union at h
  induction b generalizing a with
  | nil => exact .inl h
  | cons y b ih =>
    simp only [List.foldl_cons] at h
    rcases ih h with h | h
    · split at h
      · exact .inl h
      · rcases List.mem_append.1 h with h | h
        · exact .inl h
        · simp at h; subst h; exact .inr (by simp)
    · exact .inr (List.mem_cons_of_mem _ h)

theorem mem_gather {acc : List (List Nat)} : ∀ {es : List Nat} {x : Nat}, x ∈ gather acc es → ∃ e ∈ es, x = e ∨ x ∈ acc.getD e []
  | [], x, h => by simp [gather] at h
  | e :: es, x, h => by
    simp only [gather] at h
    rcases mem_union h with h | h
    · rcases mem_union h with h | h
      · obtain ⟨e', h1, h2⟩ := mem_gather h; exact ⟨e', List.mem_cons_of_mem _ h1, h2⟩
      · simp at h; subst h; exact ⟨x, by simp, .inl rfl⟩
    · exact ⟨e, by simp, .inr h⟩

theorem ancL_closed {D : Nat → Bool} {ops : List Oper} (hD : ∀ j o, ops[j]? = some o → D j = true → ∀ e ∈ edges o, D e = true) :
    ∀ (os pre : List Oper) (acc : List (List Nat)), ops = pre ++ os → acc.length = pre.length →
      (∀ j, D j = true → ∀ i ∈ acc.getD j [], D i = true) → ∀ j, D j = true → ∀ i ∈ (ancL os acc).getD j [], D i = true
  | [], pre, acc, ho, hl, h => h
  | o :: os, pre, acc, ho, hl, h => by
    refine ancL_closed hD os (pre ++ [o]) _ (by simp [ho]) (by simp [hl]) (fun j hj i hi => ?_)
    by_cases hjl : j < acc.length
    · have : (acc ++ [gather acc (edges o)]).getD j [] = acc.getD j [] := by simp [List.getD, List.getElem?_append, hjl]
      rw [this] at hi
      exact h j hj i hi
    · by_cases hje : j = acc.length
      · subst hje
        have : (acc ++ [gather acc (edges o)]).getD acc.length [] = gather acc (edges o) := by simp [List.getD]
        rw [this] at hi
        have hoj : ops[acc.length]? = some o := by rw [ho, hl]; simp
        obtain ⟨e, he, h2⟩ := mem_gather hi
        have hde := hD _ o hoj hj e he
        rcases h2 with rfl | h2
        · exact hde
        · exact h e hde i h2
      · have : (acc ++ [gather acc (edges o)]).getD j [] = [] := by
          have : (acc ++ [gather acc (edges o)])[j]? = none := by rw [List.getElem?_eq_none]; simp; omega
          simp [List.getD, this]
        rw [this] at hi; simp at hi

/-! ### Steps -/

structure Stp where
  r : PV
  us : List (Nat × Blk)
  tids : List Nat
  keys : List Nat

def namesO (ops : Array Oper) (o : Oper) : List Tmp :=
  opTmps o.op.operands.toList ++ (match o.guard with
    | some (j, _) => (gSlot ops j).toList
    | none => [])

def has (l : List Nat) : Option Nat → Bool
  | some d => l.contains d
  | none => false
def meets (a b : List Nat) : Bool := a.any fun x => b.contains x
def sameDst : Option Nat → Option Nat → Bool
  | some d, some e => d == e
  | _, _ => false

def confl (ops : Array Oper) (o p : Oper) (to tp ko kp : List Nat) : Bool :=
  has (namesO ops p) o.dst || has (namesO ops o) p.dst || sameDst o.dst p.dst || meets ko tp || meets kp to || meets ko kp

def chkRow (ops : Array Oper) (anc : List Nat) (o : Oper) (to ko : List Nat) : Nat → List Oper → List (List Nat × List Nat) → Bool
  | i, p :: ps, (tp, kp) :: qs => (!confl ops p o tp to kp ko || anc.contains i) && chkRow ops anc o to ko (i + 1) ps qs
  | _, _, _ => true

def chkAll (ops : Array Oper) (L : List Oper) (I : List (List Nat × List Nat)) : Nat → List Oper → List (List Nat × List Nat) → List (List Nat) → Bool
  | j, o :: os, (to, ko) :: qs, anc :: ancs => chkRow ops anc o to ko 0 (L.take j) I && ((edges o).all fun e => decide (e < j)) && chkAll ops L I (j + 1) os qs ancs
  | _, [], _, _ => true
  | _, _, _, _ => false

/-- What conflicts is ordered; nothing waits for what stands behind it. -/
def chkD (ops : Array Oper) (I : List (List Nat × List Nat)) : Bool := chkAll ops ops.toList I 0 ops.toList I (ancL ops.toList [])

/-- Two memories of names that are written: what stands where an operation of this region was told. -/
structure Row where
  o : Oper
  st : Stp
  env : Env
  mem : Mem
  ran : Bool

/-- The operation does what was told of it, wherever its operands and the blocks that it touches are as told. -/
def StepR (P : Program) (sz : Nat) (ops : Array Oper) (N : Nat) (q : Row) : Prop :=
  dOk sz q.o.dst = true ∧ (∀ p ∈ q.st.us, p.1 < N) ∧ (∀ p ∈ q.st.us, p.1 ∈ q.st.keys) ∧
  ∀ env' mem' g F X w a, AgE q.env env' (namesO ops q.o) → Ag q.mem mem' (q.st.tids ++ q.st.keys) → SR g F X w sz ⟨env', mem', N⟩ a →
    ∀ (next : Act → World → Prop) (Q : Exit → Act → World → Prop),
      (∀ g' F' X' w' v, MR g' F' X' w' (updL mem' q.st.us) → Ext g F X w mem' g' F' X' w' (updL mem' q.st.us) → VR g' F' w' (updL mem' q.st.us) v q.st.r → next (a.put q.o.dst v) w') →
      (if Region.wanted q.o (yielded ops a.tmps) then q.o.wp P a w next Q ∨ (q.o.asks P a w ∧ LetsOut Q) else next (a.put q.o.dst undef) w)

def eus (q : Row) : List (Nat × PV) := match q.o.dst with
  | some d => [(d, q.st.r)]
  | none => []

/-- The rows stand in the order of the text, each told where those ahead of it have been carried out. -/
structure Rows (P : Program) (sz : Nat) (ops : Array Oper) (N : Nat) (env0 : Env) (mem0 : Mem) (R : List Row) : Prop where
  oeq : R.map (·.o) = ops.toList
  step : ∀ q ∈ R, StepR P sz ops N q
  env : ∀ (i : Nat) (q : Row), R[i]? = some q → q.env = accum (fun j => decide (j < i)) 0 (R.map eus) env0
  mem : ∀ (i : Nat) (q : Row), R[i]? = some q → q.mem = accum (fun j => decide (j < i)) 0 (R.map (·.st.us)) mem0

def infos (R : List Row) : List (List Nat × List Nat) := R.map fun q => (q.st.tids, q.st.keys)

theorem chkRow_get {ops : Array Oper} {anc : List Nat} {o : Oper} {to ko : List Nat} : ∀ (ps : List Oper) (qs : List (List Nat × List Nat)) (i k : Nat) (p : Oper) (q : List Nat × List Nat),
    chkRow ops anc o to ko i ps qs = true → ps[k]? = some p → qs[k]? = some q → confl ops p o q.1 to q.2 ko = true → (i + k) ∈ anc
  | [], qs, i, k, p, q, h, hp, hq, hc => by simp at hp
  | p :: ps, [], i, k, p', q, h, hp, hq, hc => by simp at hq
  | p :: ps, (tp, kp) :: qs, i, k, p', q, h, hp, hq, hc => by
    simp only [chkRow, Bool.and_eq_true, Bool.or_eq_true, Bool.not_eq_true'] at h
    cases k with
    | zero =>
      simp at hp hq
      subst hp hq
      rcases h.1 with h1 | h1
      · rw [hc] at h1; cases h1
      · simpa using h1
    | succ k =>
      have := chkRow_get ps qs (i + 1) k p' q h.2 (by simpa using hp) (by simpa using hq) hc
      rwa [show i + (k + 1) = i + 1 + k by omega]

theorem chkAll_get {ops : Array Oper} {L : List Oper} {I : List (List Nat × List Nat)} : ∀ (os : List Oper) (qs : List (List Nat × List Nat)) (ancs : List (List Nat)) (j k : Nat) (o : Oper) (q : List Nat × List Nat),
    chkAll ops L I j os qs ancs = true → os[k]? = some o → qs[k]? = some q → chkRow ops (ancs.getD k []) o q.1 q.2 0 (L.take (j + k)) I = true ∧ ∀ e ∈ edges o, e < j + k
  | [], qs, ancs, j, k, o, q, h, ho, hq => by simp at ho
  | o' :: os, [], ancs, j, k, o, q, h, ho, hq => by simp at hq
  | o' :: os, (to, ko) :: qs, [], j, k, o, q, h, ho, hq => by simp [chkAll] at h
  | o' :: os, (to, ko) :: qs, anc :: ancs, j, k, o, q, h, ho, hq => by
    simp only [chkAll, Bool.and_eq_true, List.all_eq_true, decide_eq_true_eq] at h
    cases k with
    | zero => simp at ho hq; subst ho hq; exact ⟨by simpa using h.1.1, h.1.2⟩
    | succ k =>
      have := chkAll_get os qs ancs (j + 1) k o q h.2 (by simpa using ho) (by simpa using hq)
      rw [show j + (k + 1) = j + 1 + k by omega]
      simpa using this

theorem has_some {l : List Nat} {d : Option Nat} : has l d = true → ∃ x, d = some x ∧ x ∈ l := by
  cases d with
  | none => intro h; cases h
  | some d => intro h; exact ⟨d, rfl, by simpa [has] using h⟩

def left (l : List Bool) : Nat := (l.filter (! ·)).length

theorem left_set : ∀ (l : List Bool) (i : Nat), l[i]? = some false → left (l.set i true) + 1 = left l
  | [], i, h => by simp at h
  | b :: l, i, h => by
    cases i with
    | zero => simp at h; subst h; simp [left]
    | succ i =>
      have := left_set l i (by simpa using h)
      cases b <;> simp [left] at this ⊢ <;> omega

theorem left_pos : ∀ (l : List Bool) (i : Nat), l[i]? = some false → 0 < left l
  | l, i, h => by have := left_set l i h; omega

/-- A region whose order is open. -/
theorem wp_draw {P : Program} {keep sz : Nat} {ops : Array Oper} {id N : Nat} {st : St} {R : List Row} {K : St → Prop} {g : Gs} {F X : Nat → Prop} {w : World} {a : Act}
    {Q : Exit → Act → World → Prop} (hmix : P.follows .mixedOrders = true) (hR : Rows P sz ops N st.env st.mem R) (hchk : chkD ops (infos R) = true)
    (hsr : SR g F X w sz ⟨st.env, st.mem, N⟩ a)
    (hfin : ∀ g' F' X' w' a', SR g' F' X' w' sz ⟨accum (fun _ => true) 0 (R.map eus) st.env, accum (fun _ => true) 0 (R.map (·.st.us)) st.mem, N⟩ a' →
      ExtK keep g F X w st.mem g' F' X' w' (accum (fun _ => true) 0 (R.map (·.st.us)) st.mem) → Q .normal a' w') :
    (Code.region id ops true).wp P Q a w := by
  refine wp_region_any hmix ?_
  have hRl : R.length = ops.size := by have := congrArg List.length hR.oeq; simpa using this
  have hRo : ∀ (i : Nat) (q : Row), R[i]? = some q → ops[i]? = some q.o := fun i q hq => by
    have : (R.map (·.o))[i]? = some q.o := by simp [hq]
    rw [hR.oeq] at this
    simpa using this
  -- the order that the conflicts have
  have hord : ∀ (i j : Nat) (p q : Row), i < j → R[i]? = some p → R[j]? = some q → confl ops p.o q.o p.st.tids q.st.tids p.st.keys q.st.keys = true →
      i ∈ (ancL ops.toList []).getD j [] := fun i j p q hij hp hq hc => by
    have h1 := chkAll_get ops.toList (infos R) (ancL ops.toList []) 0 j q.o (q.st.tids, q.st.keys) hchk (by have := hRo j q hq; simpa using this) (by simp [infos, hq])
    have h2 := chkRow_get (ops.toList.take (0 + j)) (infos R) 0 i p.o (p.st.tids, p.st.keys) h1.1 (by
      rw [List.getElem?_take, if_pos (by omega)]; have := hRo i p hp; simpa using this) (by simp [infos, hp]) hc
    simpa using h2
  have hback : ∀ (j : Nat) (o : Oper), ops[j]? = some o → ∀ e ∈ edges o, e < j := fun j o ho e he => by
    have hj : j < R.length := by rw [hRl]; exact (Array.getElem?_eq_some_iff.1 ho).1
    have := chkAll_get ops.toList (infos R) (ancL ops.toList []) 0 j o ((R[j]).st.tids, (R[j]).st.keys) hchk (by simpa using ho) (by simp [infos, hj])
    have := this.2 e he
    omega
  have hedge : ∀ (o : Oper) (e : Edge), e ∈ o.after → Region.binds .any e = true → e.on ∈ edges o := fun o e he hb => by
    unfold edges
    rw [List.mem_filterMap]
    exact ⟨e, by simpa using he, by simp [hb]⟩
  have hconf : ∀ (i j : Nat) (p q : Row), i < j → R[i]? = some p → R[j]? = some q → confl ops p.o q.o p.st.tids q.st.tids p.st.keys q.st.keys = true →
      ∀ (D : Nat → Bool), (∀ j o, ops.toList[j]? = some o → D j = true → ∀ e ∈ edges o, D e = true) → D j = true → D i = true := fun i j p q hij hp hq hc D hD hj =>
    ancL_closed hD ops.toList [] [] rfl rfl (fun j _ i hi => by simp at hi) j hj i (hord i j p q hij hp hq hc)
  have hmem : ∀ {l : List Nat} {x : Nat}, x ∈ l → l.contains x = true := fun h => by simpa using h
  have hmeets : ∀ {l k : List Nat} {x : Nat}, x ∈ l → x ∈ k → meets l k = true := fun h1 h2 => by
    unfold meets; rw [List.any_eq_true]; exact ⟨_, h1, by simpa using h2⟩
  have heus : ∀ (q : Row) (t : Nat), writes (eus q) t → q.o.dst = some t := fun q t hw => by
    obtain ⟨p, hp, rfl⟩ := hw
    unfold eus at hp
    split at hp
    · rename_i d hd; simp at hp; subst hp; exact hd
    · simp at hp
  have hkeys : ∀ (i : Nat) (q : Row) (t : Nat), R[i]? = some q → writes q.st.us t → t ∈ q.st.keys := fun i q t hq hw => by
    obtain ⟨p, hp, rfl⟩ := hw
    exact (hR.step q (List.mem_of_getElem? hq)).2.2.1 p hp
  have main : ∀ (fuel : Nat) (listed : Array Bool) (a1 : Act) (w1 : World) (g1 : Gs) (F1 X1 : Nat → Prop),
      listed.size = ops.size → left listed.toList ≤ fuel →
      (∀ j o, ops.toList[j]? = some o → listed.getD j false = true → ∀ e ∈ edges o, listed.getD e false = true) →
      SR g1 F1 X1 w1 sz ⟨accum (fun j => listed.getD j false) 0 (R.map eus) st.env, accum (fun j => listed.getD j false) 0 (R.map (·.st.us)) st.mem, N⟩ a1 →
      ExtK keep g F X w st.mem g1 F1 X1 w1 (accum (fun j => listed.getD j false) 0 (R.map (·.st.us)) st.mem) →
      wpAny P .any ops Q fuel listed a1 w1 := by
    have hdone : ∀ (listed : Array Bool) (a1 : Act) (w1 : World) (g1 : Gs) (F1 X1 : Nat → Prop), listed.size = ops.size →
        SR g1 F1 X1 w1 sz ⟨accum (fun j => listed.getD j false) 0 (R.map eus) st.env, accum (fun j => listed.getD j false) 0 (R.map (·.st.us)) st.mem, N⟩ a1 →
        ExtK keep g F X w st.mem g1 F1 X1 w1 (accum (fun j => listed.getD j false) 0 (R.map (·.st.us)) st.mem) → Region.ready .any ops listed = [] → Q .normal a1 w1 := by
      intro listed a1 w1 g1 F1 X1 hsz hs he hr
      have hall : ∀ j, j < ops.size → listed.getD j false = true := by
        intro j
        induction j using Nat.strongRecOn with
        | _ j ihj =>
          intro hj
          cases hb : listed.getD j false with
          | true => rfl
          | false =>
            have hjl : j < listed.size := by omega
            have hb2 : listed.getD j true = false := by simp [hjl] at hb ⊢; exact hb
            have ho : ops[j]? = some ops[j] := by simp [hj]
            have : j ∈ Region.ready .any ops listed := mem_ready.2 ⟨hb2, ops[j], ho, fun e he hbe => by
              have hlt := hback j ops[j] ho e.on (hedge _ e he hbe)
              exact ihj e.on hlt (by omega)⟩
            rw [hr] at this; cases this
      have hfull : ∀ {β : Type} (us : List (List (Nat × β))) (f : Nat → β), us.length = ops.size → accum (fun j => listed.getD j false) 0 us f = accum (fun _ => true) 0 us f := fun us f hl => by
        funext t
        refine accum_agree us 0 f f rfl (fun j u hj _ => ?_)
        have : j < ops.size := by rw [← hl]; exact (List.getElem?_eq_some_iff.1 hj).1
        simpa using hall j this
      rw [hfull (R.map eus) _ (by simp [hRl]), hfull (R.map (·.st.us)) _ (by simp [hRl])] at hs
      rw [hfull (R.map (·.st.us)) _ (by simp [hRl])] at he
      exact hfin g1 F1 X1 w1 a1 hs he
    intro fuel
    induction fuel with
    | zero =>
      intro listed a1 w1 g1 F1 X1 hsz hleft hcl hs he
      have hr : Region.ready .any ops listed = [] := by
        cases hq : Region.ready .any ops listed with
        | nil => rfl
        | cons i is =>
          have : i ∈ Region.ready .any ops listed := by rw [hq]; simp
          obtain ⟨hun, o, ho, _⟩ := mem_ready.1 this
          have hi : i < listed.size := by rw [hsz]; exact (Array.getElem?_eq_some_iff.1 ho).1
          have hl : listed.toList[i]? = some false := by simp [hi] at hun ⊢; exact hun
          have := left_pos _ _ hl
          omega
      exact ⟨hr, hdone listed a1 w1 g1 F1 X1 hsz hs he hr⟩
    | succ fuel ih =>
      intro listed a1 w1 g1 F1 X1 hsz hleft hcl hs he
      refine ⟨hdone listed a1 w1 g1 F1 X1 hsz hs he, fun i hi => ?_⟩
      obtain ⟨hun, o, ho, hready⟩ := mem_ready.1 hi
      have hilt : i < ops.size := (Array.getElem?_eq_some_iff.1 ho).1
      have hil : i < listed.size := by omega
      have hiD : listed.getD i false = false := by simp [hil] at hun ⊢; exact hun
      have hiR : i < R.length := by omega
      have hq : R[i]? = some R[i] := by simp [hiR]
      have hqo := hRo i _ hq
      rw [ho] at hqo
      have hoo : o = R[i].o := Option.some.inj hqo
      subst hoo
      have hcl2 : ∀ j o, ops.toList[j]? = some o → (j == i || listed.getD j false) = true → ∀ e ∈ edges o, (e == i || listed.getD e false) = true := fun j o hoj hj e hee => by
        simp only [Bool.or_eq_true, beq_iff_eq] at hj ⊢
        rcases hj with rfl | hj
        · right
          have : o = R[j].o := by
            have h1 : ops[j]? = some o := by simpa using hoj
            rw [ho] at h1; exact (Option.some.inj h1).symm
          subst this
          unfold edges at hee
          rw [List.mem_filterMap] at hee
          obtain ⟨ed, hed, hed2⟩ := hee
          split at hed2
          · rename_i hb; cases hed2; exact hready ed (by simpa using hed) hb
          · cases hed2
        · exact .inr (hcl j o hoj hj e hee)
      -- those ahead of it that it conflicts with have come up; those behind it have not
      have hahead : ∀ (j : Nat) (p : Row), j < i → R[j]? = some p → confl ops p.o R[i].o p.st.tids R[i].st.tids p.st.keys R[i].st.keys = true → listed.getD j false = true := fun j p hji hp hc => by
        have := hconf j i p R[i] hji hp hq hc (fun k => k == i || listed.getD k false) hcl2 (by simp)
        simp only [Bool.or_eq_true, beq_iff_eq] at this
        exact this.resolve_left (by omega)
      have hbehind : ∀ (j : Nat) (p : Row), i < j → R[j]? = some p → confl ops R[i].o p.o R[i].st.tids p.st.tids R[i].st.keys p.st.keys = true → listed.getD j false = false := fun j p hij hp hc => by
        cases hb : listed.getD j false with
        | false => rfl
        | true => have := hconf i j R[i] p hij hq hp hc (fun k => listed.getD k false) hcl hb; rw [hiD] at this; cases this
      obtain ⟨hd, hNk, hkk, hstep⟩ := hR.step R[i] (List.getElem_mem hiR)
      have hAgE : AgE R[i].env (accum (fun j => listed.getD j false) 0 (R.map eus) st.env) (namesO ops R[i].o) := fun t ht => by
        rw [hR.env i _ hq]
        refine accum_agree _ 0 _ _ rfl (fun j u hj hw => ?_)
        simp only [List.getElem?_map, Option.map_eq_some_iff] at hj
        obtain ⟨p, hp, rfl⟩ := hj
        have hdst := heus p t hw
        simp only [Nat.zero_add]
        rcases Nat.lt_trichotomy j i with hji | rfl | hij
        · rw [hahead j p hji hp (by simp [confl, hdst, has, ht])]; simp [hji]
        · rw [hiD]; simp
        · rw [hbehind j p hij hp (by simp [confl, hdst, has, ht])]; simp; omega
      have hAgM : Ag R[i].mem (accum (fun j => listed.getD j false) 0 (R.map (·.st.us)) st.mem) (R[i].st.tids ++ R[i].st.keys) := fun t ht => by
        rw [hR.mem i _ hq]
        refine accum_agree _ 0 _ _ rfl (fun j u hj hw => ?_)
        simp only [List.getElem?_map, Option.map_eq_some_iff] at hj
        obtain ⟨p, hp, rfl⟩ := hj
        have hk := hkeys j p t hp hw
        simp only [Nat.zero_add]
        rcases Nat.lt_trichotomy j i with hji | rfl | hij
        · rw [hahead j p hji hp (by
            rcases List.mem_append.1 ht with h | h
            · simp [confl, hmeets hk h]
            · simp [confl, hmeets hk h])]
          simp [hji]
        · rw [hiD]; simp
        · rw [hbehind j p hij hp (by
            rcases List.mem_append.1 ht with h | h
            · simp [confl, hmeets hk h]
            · simp [confl, hmeets h hk])]
          simp; omega
      have hst := hstep _ _ g1 F1 X1 w1 a1 hAgE hAgM hs (wpAny P .any ops Q fuel (listed.setIfInBounds i true)) Q (fun g2 F2 X2 w2 v m2 e2 hv => ?_)
      · unfold wpOp
        rw [ho]
        simp only
        split
        · rename_i hwt; simpa [hwt] using hst
        · rename_i hwt; simpa [hwt] using hst
      · have hD2 : ∀ j, (listed.setIfInBounds i true).getD j false = (j == i || listed.getD j false) := fun j => by
          by_cases hj : j = i
          · subst hj; simp [hil]
          · rw [getD_set_ne false (Ne.symm hj)]; simp [hj]
        have hfun : (fun j => (listed.setIfInBounds i true).getD j false) = (fun j => j == i || listed.getD j false) := funext hD2
        have haddE : accum (fun j => j == i || listed.getD j false) 0 (R.map eus) st.env = updL (accum (fun j => listed.getD j false) 0 (R.map eus) st.env) (eus R[i]) :=
          accum_add _ 0 _ (Nat.zero_le _) (by simp [hq]) hiD (fun t ht j u hj hlt hDj hw => by
            simp only [List.getElem?_map, Option.map_eq_some_iff] at hj
            obtain ⟨p, hp, rfl⟩ := hj
            simp only [Nat.zero_add] at hlt hDj
            have h1 := heus R[i] t ht
            have h2 := heus p t hw
            have := hbehind j p hlt hp (by simp [confl, sameDst, h1, h2])
            rw [hDj] at this; cases this)
        have haddM : accum (fun j => j == i || listed.getD j false) 0 (R.map (·.st.us)) st.mem = updL (accum (fun j => listed.getD j false) 0 (R.map (·.st.us)) st.mem) R[i].st.us :=
          accum_add _ 0 _ (Nat.zero_le _) (by simp [hq]) hiD (fun t ht j u hj hlt hDj hw => by
            simp only [List.getElem?_map, Option.map_eq_some_iff] at hj
            obtain ⟨p, hp, rfl⟩ := hj
            simp only [Nat.zero_add] at hlt hDj
            have h1 := hkeys i R[i] t hq ht
            have h2 := hkeys j p t hp hw
            have := hbehind j p hlt hp (by simp [confl, hmeets h1 h2])
            rw [hDj] at this; cases this)
        have hputE : updL (accum (fun j => listed.getD j false) 0 (R.map eus) st.env) (eus R[i]) = putE (accum (fun j => listed.getD j false) 0 (R.map eus) st.env) R[i].o.dst R[i].st.r := by
          unfold eus putE
          cases R[i].o.dst <;> rfl
        have hfr : ∀ id, N ≤ id → updL (accum (fun j => listed.getD j false) 0 (R.map (·.st.us)) st.mem) R[i].st.us id = .un := fun id hid => by
          rw [updL_other _ _ _ (fun p hp => by have := hNk p hp; omega)]
          exact hs.fresh id hid
        refine ih (listed.setIfInBounds i true) _ w2 g2 F2 X2 (by simp [hsz]) ?_ ?_ ?_ ?_
        · have hl : listed.toList[i]? = some false := by simp [hil] at hun ⊢; exact hun
          have := left_set _ _ hl
          rw [Array.toList_setIfInBounds]
          omega
        · intro j o hoj hj e he2
          rw [hD2] at hj ⊢
          exact hcl2 j o hoj hj e he2
        · rw [hfun, haddE, haddM, hputE]
          exact hs.put m2 e2 hv hfr hd
        · rw [hfun, haddM]
          exact he.trans e2.k
  have hrep : ∀ j, (Array.replicate ops.size false).getD j false = false := fun j => by
    simp only [Array.getD_eq_getD_getElem?, Array.getElem?_replicate]; split <;> rfl
  refine main ops.size (Array.replicate ops.size false) a _ g F X (by simp) ?_ (fun j o hoj hj => ?_) ?_ ?_
  · unfold left
    rw [Array.toList_replicate]
    exact Nat.le_trans (List.length_filter_le _ _) (by simp)
  · rw [hrep] at hj; cases hj
  · rw [accum_none _ (fun j => hrep j), accum_none _ (fun j => hrep j)]
    exact ⟨hsr.mr.drew, fun t => (hsr.env t).ext hsr.mr Ext.drew, hsr.fresh, hsr.size, hsr.defers⟩
  · rw [accum_none _ (fun j => hrep j)]
    exact Ext.drew.k

end Go.Proofs.K
/- A region whose order is open: the evaluation. -/
namespace Go.Proofs.K
open Go Go.RowKit

variable {P : Program} {keep sz : Nat} {g g' : Gs} {F X F' X' : Nat → Prop} {w w' : World} {a : Act}

def keysOf : List (Nat × Blk) → List Nat
  | [] => []
  | (k, _) :: l => k :: keysOf l

/-- A call in a region whose order is open: by a contract that tells its result. -/
def DC (P : Program) (f : PV) (args : List PV) (mem : Mem) (K : PV → List (Nat × List (List C)) → Prop) : Prop :=
  match f with
  | .one (.fn fid []) => ∃ args' r ms, datA mem args = some args' ∧ ((flatV r = true ∧ flatM ms = true) ∨ (cellsL args).all (noMs mem) = true) ∧ Con P fid args' (fun r' ms' => r' = r ∧ ms' = ms) ∧ K r ms
  | _ => False

theorem DC.ofD {fid : FuncId} {args args' : List PV} {mem : Mem} {r : PV} {ms : List (Nat × List (List C))} {K : PV → List (Nat × List (List C)) → Prop}
    (hc : Con P fid args' fun r' ms' => r' = r ∧ ms' = ms) (hd : datA mem args = some args') (hf : (cellsL args).all (noMs mem) = true) (hK : K r ms) : DC P (.one (.fn fid [])) args mem K :=
  ⟨args', r, ms, hd, .inr hf, hc, hK⟩
theorem DC.of {fid : FuncId} {args args' : List PV} {mem : Mem} {r : PV} {ms : List (Nat × List (List C))} {K : PV → List (Nat × List (List C)) → Prop}
    (hc : Con P fid args' fun r' ms' => r' = r ∧ ms' = ms) (hd : datA mem args = some args') (hf : flatV r = true ∧ flatM ms = true) (hK : K r ms) : DC P (.one (.fn fid [])) args mem K :=
  ⟨args', r, ms, hd, .inl hf, hc, hK⟩

/-- One operation that is carried out. -/
def rowD (P : Program) (sz : Nat) (o : Oper) (env : Env) (mem : Mem) (nid : Nat) (K : PV → List (Nat × Blk) → Nat → Prop) : Prop :=
  match o.op with
  | .call { callee := .value f, args, argTypes := _ } => dOk sz o.dst = true ∧ DC P (getO env f) (argsO env args.toList) mem fun r ms => K (shV nid r) (shM nid ms) (nid + ms.length)
  | op => match opF P env mem nid op with
    | some out => (dOk sz o.dst = true ∧ out.φ) ∧ K out.r out.us out.nid
    | none => False

def rowsD (P : Program) (sz : Nat) (ops : Array Oper) : List Oper → Env → Mem → Nat → List (List Nat × List Nat) → (List (List Nat × List Nat) → St → Prop) → Prop
  | [], env, mem, nid, acc, K => K acc.reverse ⟨env, mem, nid⟩
  | o :: os, env, mem, nid, acc, K =>
    match o.guard with
    | none => rowD P sz o env mem nid fun r us n => rowsD P sz ops os (putE env o.dst r) (updL mem us) n ((opIds env o.op.operands.toList, keysOf us) :: acc) K
    | some (j, want) =>
      match gSlot ops j with
      | some t => (match env t with
        | .one (.c (.bool b)) => (b = want → rowD P sz o env mem nid fun r us n => rowsD P sz ops os (putE env o.dst r) (updL mem us) n ((opIds env o.op.operands.toList, keysOf us) :: acc) K) ∧
            (b = (!want) → dOk sz o.dst = true ∧ rowsD P sz ops os (putE env o.dst vnone) mem nid (([], []) :: acc) K)
        | .tup [] => dOk sz o.dst = true ∧ rowsD P sz ops os (putE env o.dst vnone) mem nid (([], []) :: acc) K
        | _ => False)
      | none => False

/-- Is the operation carried out? -/
inductive Gd where
  | run | skip | no

def gdOf (ops : Array Oper) (env : Env) (o : Oper) : Gd :=
  match o.guard with
  | none => .run
  | some (j, want) => match gSlot ops j with
    | some t => (match env t with
      | .one (.c (.bool b)) => if b = want then .run else .skip
      | .tup [] => .skip
      | _ => .no)
    | none => .no

inductive Chain (P : Program) (sz : Nat) (ops : Array Oper) (N : Nat) : Env → Mem → List Row → Env → Mem → Prop
  | nil (env : Env) (mem : Mem) : Chain P sz ops N env mem [] env mem
  | cons (q : Row) (R : List Row) (env' : Env) (mem' : Mem) (hs : StepR P sz ops N q) (hc : Chain P sz ops N (updL q.env (eus q)) (updL q.mem q.st.us) R env' mem') :
      Chain P sz ops N q.env q.mem (q :: R) env' mem'

theorem accum_shift {α : Type} {D : Nat → Bool} : ∀ (us : List (List (Nat × α))) (i : Nat) (f : Nat → α), accum D (i + 1) us f = accum (fun j => D (j + 1)) i us f
  | [], i, f => rfl
  | u :: us, i, f => by simp only [accum]; exact accum_shift us (i + 1) _

theorem Chain.rows {ops : Array Oper} {N : Nat} : ∀ {env env' : Env} {mem mem' : Mem} {R : List Row}, Chain P sz ops N env mem R env' mem' →
    (∀ q ∈ R, StepR P sz ops N q) ∧ (∀ (i : Nat) (q : Row), R[i]? = some q → q.env = accum (fun j => decide (j < i)) 0 (R.map eus) env) ∧
    (∀ (i : Nat) (q : Row), R[i]? = some q → q.mem = accum (fun j => decide (j < i)) 0 (R.map (·.st.us)) mem) ∧
    env' = accum (fun _ => true) 0 (R.map eus) env ∧ mem' = accum (fun _ => true) 0 (R.map (·.st.us)) mem := by
  intro env env' mem mem' R h
  induction h with
  | nil env mem => exact ⟨by simp, fun i q h => by simp at h, fun i q h => by simp at h, rfl, rfl⟩
  | cons q R env' mem' hs hc ih =>
    obtain ⟨h1, h2, h3, h4, h5⟩ := ih
    have hno : ∀ {α : Type} (us : List (List (Nat × α))) (i : Nat) (f : Nat → α), accum (fun j => decide (j < 0)) i us f = f := fun us i f => accum_none us (fun j => by simp)
    refine ⟨fun p hp => (List.mem_cons.1 hp).elim (fun e => e ▸ hs) (h1 p), fun i p hp => ?_, fun i p hp => ?_, ?_, ?_⟩
    · cases i with
      | zero => simp at hp; subst hp; rw [hno]
      | succ i =>
        rw [h2 i p (by simpa using hp)]
        simp only [List.map_cons, accum, Nat.zero_lt_succ, decide_true, if_true, Nat.zero_add]
        rw [accum_shift]
        simp only [Nat.add_lt_add_iff_right]
    · cases i with
      | zero => simp at hp; subst hp; rw [hno]
      | succ i =>
        rw [h3 i p (by simpa using hp)]
        simp only [List.map_cons, accum, Nat.zero_lt_succ, decide_true, if_true, Nat.zero_add]
        rw [accum_shift]
        simp only [Nat.add_lt_add_iff_right]
    · rw [h4]; simp only [List.map_cons, accum, if_true, Nat.zero_add]; rw [accum_shift]
    · rw [h5]; simp only [List.map_cons, accum, if_true, Nat.zero_add]; rw [accum_shift]

theorem keysOf_mem : ∀ {us : List (Nat × Blk)} {p : Nat × Blk}, p ∈ us → p.1 ∈ keysOf us
  | [], p, h => by simp at h
  | (k, b) :: us, p, h => by
    rcases List.mem_cons.1 h with rfl | h
    · simp [keysOf]
    · simp [keysOf, keysOf_mem h]

theorem wanted_of {ops : Array Oper} {st : St} {env : Env} {o : Oper} (h : SR g F X w sz st a) (he : AgE env st.env (namesO ops o)) :
    (gdOf ops env o = .run → Region.wanted o (yielded ops a.tmps) = true) ∧ (gdOf ops env o = .skip → Region.wanted o (yielded ops a.tmps) = false) := by
  unfold gdOf
  cases hg : o.guard with
  | none => simp [Region.wanted, hg]
  | some jw =>
    obtain ⟨j, want⟩ := jw
    simp only
    cases ht : gSlot ops j with
    | none => simp
    | some t =>
      simp only
      have hy : yielded ops a.tmps j = match a.tmps[t]? with | some (.bool b) => some b | _ => none := by
        unfold yielded
        rw [show ((ops[j]?).bind (·.dst)) = some t from ht]
        rfl
      have henv := h.env t
      rw [he t (by simp [namesO, hg, ht])] at henv
      split
      · rename_i b hb
        rw [hb] at henv
        have henv' : RepC F w (a.eval (.tmp t)) (.bool b) := henv
        have hv : a.tmps[t]? = some (.bool b) := by
          have hb : a.eval (.tmp t) = .bool b := by generalize a.eval (.tmp t) = u at henv'; cases henv'; rfl
          simp only [Act.eval, Array.getD_eq_getD_getElem?] at hb
          cases hq : a.tmps[t]? with
          | none => rw [hq] at hb; cases hb
          | some u => rw [hq] at hb; simpa using hb
        rw [hv] at hy
        simp only [Region.wanted, hg, hy]
        by_cases hbw : b = want
        · subst hbw; simp
        · rw [if_neg hbw]
          exact ⟨fun h => by (first | cases h | nomatch h), fun _ => by simpa using hbw⟩
      · rename_i hb
        rw [hb] at henv
        obtain ⟨vs, hvs, hsz, _⟩ : ∃ vs : Array Value, a.eval (.tmp t) = .tuple vs ∧ vs.size = 0 ∧ _ := henv
        have hy2 : yielded ops a.tmps j = none := by
          rw [hy]
          simp only [Act.eval, Array.getD_eq_getD_getElem?] at hvs
          cases hq : a.tmps[t]? with
          | none => rfl
          | some u => rw [hq] at hvs; simp at hvs; rw [hvs]
        simp only [Region.wanted, hg, hy2]
        exact ⟨fun h => by (first | cases h | nomatch h), fun _ => by simp⟩
      · exact ⟨fun h => by (first | cases h | nomatch h), fun h => by (first | cases h | nomatch h)⟩

theorem AgE.left {e e' : Env} {a b : List Tmp} (h : AgE e e' (a ++ b)) : AgE e e' a := fun i hi => h i (List.mem_append_left _ hi)

theorem step_op {ops : Array Oper} {N nid : Nat} {env : Env} {mem : Mem} {o : Oper} {out : Out} (hg : gdOf ops env o = .run) (hf : ∀ id, nid ≤ id → mem id = .un)
    (hout : opF P env mem nid o.op = some out) (hd : dOk sz o.dst = true) (hφ : out.φ) (hN : out.nid ≤ N) :
    StepR P sz ops N ⟨o, ⟨out.r, out.us, opIds env o.op.operands.toList, keysOf out.us⟩, env, mem, true⟩ := by
  obtain ⟨k1, k2, k3⟩ := opF_keys hf hout
  refine ⟨hd, fun p hp => Nat.lt_of_lt_of_le (k2 p hp) hN, fun p hp => keysOf_mem hp, ?_⟩
  intro env' mem' g F X w a he hm hs next Q hn
  have he : AgE env env' (namesO ops o) := he
  have hm : Ag mem mem' (opIds env o.op.operands.toList ++ keysOf out.us) := hm
  rw [(wanted_of (st := ⟨env', mem', N⟩) hs he).1 hg]
  simp only [if_true]
  left
  have hout' : opF P env' mem' nid o.op = some out := by rw [opF_ag (AgE.left he) (Ag.left hm)]; exact hout
  obtain ⟨n, v, w', hrun, hnv, g', F', X', hmr, hext, hvr⟩ := opF_ok (P := P) (ρ := a.eval) (o := o) hs.mr hs.evals (fun id h1 h2 => by
    obtain ⟨p, hp, rfl⟩ := k3 id h1 h2
    show mem' p.1 = .un
    rw [Ag.right hm _ (keysOf_mem hp)]
    exact hf _ h1) hout' hφ
  unfold Oper.wp
  rw [hrun]
  rcases hnv with rfl | ⟨rfl, rfl⟩
  · exact hn g' F' X' w' _ hmr hext hvr
  · exact hn g' F' X' w' _ hmr hext hvr

theorem step_skip {ops : Array Oper} {N : Nat} {env : Env} {mem : Mem} {o : Oper} (hg : gdOf ops env o = .skip) (hd : dOk sz o.dst = true) :
    StepR P sz ops N ⟨o, ⟨vnone, [], [], []⟩, env, mem, false⟩ := by
  refine ⟨hd, fun p hp => by simp at hp, fun p hp => by simp at hp, ?_⟩
  intro env' mem' g F X w a he hm hs next Q hn
  have he : AgE env env' (namesO ops o) := he
  rw [(wanted_of (st := ⟨env', mem', N⟩) hs he).2 hg]
  simp only [Bool.false_eq_true, if_false]
  exact hn g F X w undef hs.mr (Ext.refl _ _ _ _ _) ⟨#[], rfl, rfl, fun i p hp => by simp at hp⟩

theorem keysOf_shM : ∀ (ms : List (Nat × List (List C))) (n id : Nat), n ≤ id → id < n + ms.length → id ∈ keysOf (shM n ms)
  | [], n, id, h1, h2 => by simp at h2; omega
  | (sz, rows) :: ms, n, id, h1, h2 => by
    simp only [shM, keysOf, List.mem_cons]
    by_cases e : id = n
    · exact .inl e
    · exact .inr (keysOf_shM ms (n + 1) id (by omega) (by simp at h2; omega))

theorem shM_keys : ∀ (ms : List (Nat × List (List C))) (n : Nat), ∀ p ∈ shM n ms, p.1 < n + ms.length
  | [], n, p, hp => by simp [shM] at hp
  | (sz, rows) :: ms, n, p, hp => by
    simp only [shM, List.mem_cons] at hp
    rcases hp with rfl | hp
    · simp
    · have := shM_keys ms (n + 1) p hp
      simp; omega

theorem dat1_ag {m m' : Mem} {p : P1} (h : Ag m m' (ids1 p)) : dat1 m' p = dat1 m p := by
  unfold dat1
  split
  · rfl
  · rfl
  · rw [toC1_ag h]

theorem datL_ag {m m' : Mem} : ∀ {ps : List P1}, Ag m m' (idsL ps) → datL m' ps = datL m ps
  | [], _ => rfl
  | p :: ps, h => by simp only [datL, dat1_ag (Ag.left h), datL_ag (Ag.right h)]

theorem datV_ag {m m' : Mem} {p : PV} (h : Ag m m' (idsV p)) : datV m' p = datV m p := by
  cases p with
  | one p => simp only [datV]; rw [dat1_ag (fun i hi => h i (by simp [idsV, PV.cells, idsL, hi]))]
  | agg xs => simp only [datV]; rw [datL_ag (ps := xs) h]
  | tup xs => rfl

theorem datA_ag {m m' : Mem} {env : Env} : ∀ {xs : List Operand}, Ag m m' (opIds env xs) → datA m' (argsO env xs) = datA m (argsO env xs)
  | [], _ => rfl
  | x :: xs, h => by
    have h1 : Ag m m' (idsV (getO env x)) := Ag.left h
    have h2 : Ag m m' (opIds env xs) := Ag.right h
    simp only [argsO, datA, datV_ag h1, datA_ag h2]

theorem noMs_ag {m m' : Mem} {p : P1} (h : Ag m m' (ids1 p)) : noMs m' p = noMs m p := by
  cases p <;> simp only [noMs] <;> (rw [h _ (by simp [ids1])])
theorem noMs_agL {m m' : Mem} : ∀ {ps : List P1}, Ag m m' (idsL ps) → ps.all (noMs m') = ps.all (noMs m)
  | [], _ => rfl
  | p :: ps, h => by simp only [List.all_cons, noMs_ag (Ag.left h), noMs_agL (Ag.right h)]
theorem noMs_agA {m m' : Mem} {env : Env} : ∀ {xs : List Operand}, Ag m m' (opIds env xs) → (cellsL (argsO env xs)).all (noMs m') = (cellsL (argsO env xs)).all (noMs m)
  | [], _ => rfl
  | x :: xs, h => by
    have h1 : Ag m m' (idsL (getO env x).cells) := Ag.left h
    simp only [argsO, cellsL, List.all_append, noMs_agL h1, noMs_agA (Ag.right h)]

theorem step_call {ops : Array Oper} {N nid : Nat} {env : Env} {mem : Mem} {o : Oper} {f : Operand} {args : Array Operand} {argTypes : Array TypeId} {fid : FuncId} {args' : List PV} {r : PV} {ms : List (Nat × List (List C))}
    (hg : gdOf ops env o = .run) (hf : ∀ id, nid ≤ id → mem id = .un) (hop : o.op = .call { callee := .value f, args, argTypes }) (hd : dOk sz o.dst = true)
    (hfn : getO env f = .one (.fn fid [])) (hda : datA mem (argsO env args.toList) = some args') (hfl : (flatV r = true ∧ flatM ms = true) ∨ (cellsL (argsO env args.toList)).all (noMs mem) = true)
    (hc : Con P fid args' fun r' ms' => r' = r ∧ ms' = ms) (hN : nid + ms.length ≤ N) :
    StepR P sz ops N ⟨o, ⟨shV nid r, shM nid ms, opIds env o.op.operands.toList, keysOf (shM nid ms)⟩, env, mem, true⟩ := by
  refine ⟨hd, fun p hp => Nat.lt_of_lt_of_le (shM_keys _ _ p hp) hN, fun p hp => keysOf_mem hp, ?_⟩
  intro env' mem' g F X w a he hm hs next Q hn
  have he : AgE env env' (namesO ops o) := he
  have hm : Ag mem mem' (opIds env o.op.operands.toList ++ keysOf (shM nid ms)) := hm
  rw [(wanted_of (st := ⟨env', mem', N⟩) hs he).1 hg]
  simp only [if_true]
  left
  have hops : o.op.operands.toList = f :: args.toList := by rw [hop]; show (#[f] ++ args).toList = _; simp
  have he1 := AgE.left he
  have hm1 := Ag.left hm
  rw [hops] at he1 hm1
  obtain ⟨e1, e2⟩ := opTmps_cons he1
  have hfn' : getO env' f = .one (.fn fid []) := by rw [getO_ag e1]; exact hfn
  have hda' : datA mem' (argsO env' args.toList) = some args' := by rw [argsO_ag e2, datA_ag (Ag.right hm1)]; exact hda
  have hfv := hs.evals f
  rw [hfn'] at hfv
  obtain ⟨cs, hfe, hcs, hcap⟩ : V1 g F w mem' (a.eval f) (.fn fid []) := hfv
  have hcs0 : cs = #[] := by apply Array.eq_empty_of_size_eq_zero; simpa using hcs
  subst hcs0
  have hcall := hc.1
  obtain ⟨fn, c, h1, h2, h3⟩ := hcall
  have hrun : (execOp a.eval o).run P w = .ok (.enter fid (args.map a.eval)) w := by
    simp [execOp, hop, resolve, hfe, Deferred.ofValue, invoke, callFunc, h1, h2, beq_eq_false_iff_ne.1 h3]
  unfold Oper.wp
  rw [hrun, Oper.upon_enter]
  have hvs : args.map a.eval = ((args.map a.eval).toList).toArray := by apply Array.ext'; simp
  rw [hvs]
  have hvrs : VRs g F w mem' (args.map a.eval).toList (argsO env' args.toList) := ⟨by simp [argsO_len], fun i v p hv hp => by
      obtain ⟨x, hx, rfl⟩ := argsO_get _ _ _ hp
      simp only [Array.toList_map, List.getElem?_map, hx, Option.map_some, Option.some.injEq] at hv
      subst hv
      exact hs.evals x⟩
  have hfree : ∀ r' ms', (r' = r ∧ ms' = ms) → ∀ id, nid ≤ id → id < nid + ms'.length → mem' id = .un := fun r' ms' hq id i1 i2 => by
    rw [Ag.right hm id (by rw [hq.2] at i2; exact keysOf_shM ms nid id i1 i2)]
    exact hf id i1
  refine Calls.mono (show Calls P fid _ w _ from hfl.elim (fun hfl => con_flat (nid := nid) hc hda' (fun r' ms' hq => ⟨by rw [hq.1, hq.2]; exact hfl, hfree r' ms' hq⟩) _ hs.mr hvrs)
    (fun hno => con_data (nid := nid) hc hda' (by rw [argsO_ag e2, noMs_agA (Ag.right hm1)]; exact hno) hfree _ hs.mr hvrs)) ?_
  rintro e w' ⟨v, r', ms', g', F', X', rfl, ⟨rfl, rfl⟩, hmr, hvr, hext⟩
  exact hn g' F' X' w' v hmr hext hvr

theorem rowD_step {ops : Array Oper} {nid : Nat} {env : Env} {mem : Mem} {o : Oper} {K : PV → List (Nat × Blk) → Nat → Prop} (hf : ∀ id, nid ≤ id → mem id = .un) (hg : gdOf ops env o = .run)
    (h : rowD P sz o env mem nid K) : ∃ r us n, K r us n ∧ nid ≤ n ∧ (∀ p ∈ us, p.1 < n) ∧ ∀ N, n ≤ N → StepR P sz ops N ⟨o, ⟨r, us, opIds env o.op.operands.toList, keysOf us⟩, env, mem, true⟩ := by
  unfold rowD at h
  split at h
  · rename_i f args argTypes hop
    obtain ⟨hd, h⟩ := h
    unfold DC at h
    split at h
    · rename_i fid hfn
      obtain ⟨args', r, ms, hda, hfl, hc, hK⟩ := h
      exact ⟨_, _, _, hK, by omega, shM_keys _ _, fun N hN => step_call hg hf hop hd hfn hda hfl hc hN⟩
    · exact h.elim
  · split at h
    · rename_i out hout
      obtain ⟨⟨hd, hφ⟩, hK⟩ := h
      obtain ⟨k1, k2, _⟩ := opF_keys hf hout
      exact ⟨_, _, _, hK, k1, k2, fun N hN => step_op hg hf hout hd hφ hN⟩
    · exact h.elim

theorem rowsD_ok {ops : Array Oper} {K : List (List Nat × List Nat) → St → Prop} : ∀ (os : List Oper) (env : Env) (mem : Mem) (nid : Nat) (acc : List (List Nat × List Nat)), (∀ id, nid ≤ id → mem id = .un) →
    rowsD P sz ops os env mem nid acc K → ∃ R env' mem' nid', (∀ N, nid' ≤ N → Chain P sz ops N env mem R env' mem') ∧ R.map (·.o) = os ∧ nid ≤ nid' ∧ K (acc.reverse ++ infos R) ⟨env', mem', nid'⟩
  | [], env, mem, nid, acc, hf, h => ⟨[], env, mem, nid, fun N _ => .nil env mem, rfl, Nat.le_refl _, by simpa [infos, rowsD] using h⟩
  | o :: os, env, mem, nid, acc, hf, h => by
    have hrun : ∀ (hg : gdOf ops env o = .run), (rowD P sz o env mem nid fun r us n => rowsD P sz ops os (putE env o.dst r) (updL mem us) n ((opIds env o.op.operands.toList, keysOf us) :: acc) K) →
        ∃ R env' mem' nid', (∀ N, nid' ≤ N → Chain P sz ops N env mem R env' mem') ∧ R.map (·.o) = o :: os ∧ nid ≤ nid' ∧ K (acc.reverse ++ infos R) ⟨env', mem', nid'⟩ := fun hg h => by
      obtain ⟨r, us, n, hK, hn, hus, hst⟩ := rowD_step hf hg h
      have hf' : ∀ id, n ≤ id → updL mem us id = .un := fun id hid => by
        rw [updL_other _ _ _ (fun p hp => by have := hus p hp; omega)]; exact hf id (by omega)
      obtain ⟨R, env', mem', nid', hc, ho, hle, hk⟩ := rowsD_ok os _ _ n _ hf' hK
      refine ⟨⟨o, ⟨r, us, opIds env o.op.operands.toList, keysOf us⟩, env, mem, true⟩ :: R, env', mem', nid', fun N hN => ?_, by simp [ho], by omega, by simpa [infos] using hk⟩
      refine Chain.cons ⟨o, ⟨r, us, opIds env o.op.operands.toList, keysOf us⟩, env, mem, true⟩ R env' mem' (hst N (by omega)) ?_
      have he : updL env (eus ⟨o, ⟨r, us, opIds env o.op.operands.toList, keysOf us⟩, env, mem, true⟩) = putE env o.dst r := by
        unfold eus putE; cases o.dst <;> rfl
      show Chain P sz ops N (updL env (eus _)) (updL mem us) R env' mem'
      rw [he]
      exact hc N hN
    have hskip : ∀ (hg : gdOf ops env o = .skip), (dOk sz o.dst = true ∧ rowsD P sz ops os (putE env o.dst vnone) mem nid (([], []) :: acc) K) →
        ∃ R env' mem' nid', (∀ N, nid' ≤ N → Chain P sz ops N env mem R env' mem') ∧ R.map (·.o) = o :: os ∧ nid ≤ nid' ∧ K (acc.reverse ++ infos R) ⟨env', mem', nid'⟩ := fun hg h => by
      obtain ⟨hd, hK⟩ := h
      obtain ⟨R, env', mem', nid', hc, ho, hle, hk⟩ := rowsD_ok os _ _ nid _ hf hK
      refine ⟨⟨o, ⟨vnone, [], [], []⟩, env, mem, false⟩ :: R, env', mem', nid', fun N hN => ?_, by simp [ho], hle, by simpa [infos] using hk⟩
      refine Chain.cons ⟨o, ⟨vnone, [], [], []⟩, env, mem, false⟩ R env' mem' (step_skip hg hd) ?_
      have he : updL env (eus ⟨o, ⟨vnone, [], [], []⟩, env, mem, false⟩) = putE env o.dst vnone := by
        unfold eus putE; cases o.dst <;> rfl
      show Chain P sz ops N (updL env (eus _)) mem R env' mem'
      rw [he]
      exact hc N hN
    unfold rowsD at h
    split at h
    · rename_i hgd
      exact hrun (by simp [gdOf, hgd]) h
    · rename_i j want hgd
      split at h
      · rename_i t ht
        split at h
        · rename_i b hb
          by_cases hbw : b = want
          · exact hrun (by simp [gdOf, hgd, ht, hb, hbw]) (h.1 hbw)
          · exact hskip (by simp [gdOf, hgd, ht, hb, hbw]) (h.2 (by cases b <;> cases want <;> simp_all))
        · rename_i hb
          exact hskip (by simp [gdOf, hgd, ht, hb]) h
        · exact h.elim
      · exact h.elim

/-- A region whose order is open. -/
theorem AW.draw {id : Nat} {ops : Array Oper} {st : St} {Q : Exit → St → Prop} (hmix : P.follows .mixedOrders = true)
    (h : rowsD P sz ops ops.toList st.env st.mem st.nid [] fun I st' => chkD ops I = true ∧ Q .normal st') : AW P keep sz (.region id ops true) st Q := by
  intro g F X w a hsr
  obtain ⟨R, env', mem', nid', hc, ho, hle, hchk, hQ⟩ := rowsD_ok _ _ _ _ _ hsr.fresh h
  obtain ⟨r1, r2, r3, r4, r5⟩ := (hc nid' (Nat.le_refl _)).rows
  refine wp_draw (keep := keep) (K := fun _ => True) (N := nid') (R := R) hmix ⟨ho, r1, r2, r3⟩ (by simpa using hchk) ⟨hsr.mr, hsr.env, fun id hid => hsr.fresh id (Nat.le_trans hle hid), hsr.size, hsr.defers⟩ ?_
  intro g' F' X' w' a' hs' he'
  rw [← r4, ← r5] at hs'
  rw [← r5] at he'
  exact ⟨_, g', F', X', hQ, hs', he'⟩

end Go.Proofs.K
