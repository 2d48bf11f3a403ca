/- The local memory of a call, and what operations do to it. -/
import Derived.Below
import Derived.Orders
import Derived.KernelRfl
import Derived.Laws.Entries
import Derived.Laws.Cells
import Derived.Laws.Append
import Derived.Laws.Slices
import Derived.Laws.Strings
import Derived.Laws.Concat
import Derived.Laws.CopyRow
import Derived.Laws.AppendOwn
import Derived.Laws.MakeOwn
import Derived.Laws.Small
import Derived.Laws.Cover3
import Derived.Laws.Pointers
import Derived.Laws.Tables
import Derived.Lib.AppendZeros
set_option linter.unnecessarySimpa false
set_option linter.unusedSimpArgs false
set_option linter.unusedVariables false
/- The abstract domain: data, slot values, local memory, and how they stand for the machine's world. -/
namespace Go.Proofs.K
open Go Go.RowKit

/-- Data that nobody writes: one cell. A list of rows stands for a slice. -/
inductive C where
  | int (k : IntKind) (n : Int)
  | bool (b : Bool)
  | str (s : ByteArray)
  | lst (rows : List (List C))
  deriving Inhabited

/-- What one slot or one cell of local memory is known to hold. -/
inductive P1 where
  | top
  | c (x : C)
  | nil
  | ms (id : Nat)
  | ptr (id off : Nat)
  | ep (id : Nat) (i : Nat) (off : Nat)
  | fp (row : List C) (off : Nat)
  | fn (f : FuncId) (cap : List (Nat × Nat))
  | anyb
  deriving Inhabited

inductive PV where
  | one (p : P1)
  | agg (xs : List P1)
  | tup (xs : List PV)
  deriving Inhabited

inductive Blk where
  | un | dead
  | box (cs : List P1)
  | arr (sz : Nat) (rows : List (List C))
  | frz (rows : List (List C))
  | arx (sz : Nat) (rows : List (List C)) (ov : List ((Nat × Nat) × P1))
  | arz (sz n : Nat) (zs : List P1)
  deriving Inhabited

abbrev Mem := Nat → Blk
abbrev Env := Nat → PV

def upd {α : Type} (f : Nat → α) (i : Nat) (v : α) : Nat → α := fun j => if j = i then v else f j
@[simp] theorem upd_same {α : Type} (f : Nat → α) (i : Nat) (v : α) : upd f i v i = v := by simp [upd]
theorem upd_ne {α : Type} (f : Nat → α) {i j : Nat} (v : α) (h : j ≠ i) : upd f i v j = f j := by simp [upd, h]

def updL {α : Type} (f : Nat → α) : List (Nat × α) → Nat → α
  | [] => f
  | (i, v) :: l => updL (upd f i v) l

/-- Where a local block lies. -/
structure GB where
  blk : Nat
  off : Nat
  cap : Nat
  nilb : Bool
  deriving Inhabited

abbrev Gs := Nat → GB

def hdr (g : GB) (len : Nat) : Value := if g.nilb then .slice none 0 0 else .slice (some ⟨g.blk, g.off, none⟩) len g.cap

/-- 'v' stands for the data 'x': all that it leads to lies in blocks of 'F'. -/
inductive RepC (F : Nat → Prop) (w : World) : Value → C → Prop
  | int (k : IntKind) (n : Int) : RepC F w (.int k n) (.int k n)
  | bool (b : Bool) : RepC F w (.bool b) (.bool b)
  | str (s : ByteArray) : RepC F w (.string s) (.str s)
  | nil (a : Option Addr) (cap : Nat) : RepC F w (.slice a 0 cap) (.lst [])
  | lst (b o cap : Nat) (rows : List (List C)) (sz : Nat) (vs : Nat → Nat → Value) (hF : F b) (hcap : rows.length ≤ cap)
      (hsz : ∀ r ∈ rows, r.length = sz)
      (hc : ∀ i j r x, rows[i]? = some r → r[j]? = some x → w.cell? ⟨b, o + (i * sz + j), none⟩ = some (vs i j))
      (hv : ∀ i j r x, rows[i]? = some r → r[j]? = some x → RepC F w (vs i j) x) :
      RepC F w (.slice (some ⟨b, o, none⟩) rows.length cap) (.lst rows)

theorem RepC.mono {F F' : Nat → Prop} {w w' : World} {v : Value} {x : C} (h : RepC F w v x) (hF : ∀ b, F b → F' b)
    (hw : ∀ b, F b → w'.heap[b]? = w.heap[b]?) : RepC F' w' v x := by
  induction h with
  | int k n => exact .int k n
  | bool b => exact .bool b
  | str s => exact .str s
  | nil a cap => exact .nil a cap
  | lst b o cap rows sz vs hb hcap hsz hc hv ih =>
    refine .lst b o cap rows sz vs (hF b hb) hcap hsz (fun i j r x hr hx => ?_) ih
    rw [← hc i j r x hr hx]
    simp only [World.cell?, hw b hb]

/-- What a value of one cell stands for. -/
def V1 (g : Gs) (F : Nat → Prop) (w : World) (mem : Mem) (v : Value) : P1 → Prop
  | .top => True
  | .c x => RepC F w v x
  | .nil => v = .slice none 0 0
  | .ms id => match mem id with
    | .arr _ rows => v = hdr (g id) rows.length
    | .frz rows => v = hdr (g id) rows.length
    | .arx _ rows _ => v = hdr (g id) rows.length
    | .arz _ n _ => v = hdr (g id) n
    | .dead => True
    | _ => False
  | .ptr id off => match mem id with
    | .box _ => v = .pointer (some ⟨(g id).blk, off, none⟩)
    | .dead => True
    | _ => False
  | .ep id i off => match mem id with
    | .arr sz rows => v = .pointer (some ⟨(g id).blk, (g id).off + (i * sz + off), none⟩) ∧ i < rows.length
    | .arx sz rows _ => v = .pointer (some ⟨(g id).blk, (g id).off + (i * sz + off), none⟩) ∧ i < rows.length
    | .arz sz n _ => v = .pointer (some ⟨(g id).blk, (g id).off + (i * sz + off), none⟩) ∧ i < n
    | .dead => True
    | .frz _ => True
    | _ => False
  | .fp row off => ∃ b o, v = .pointer (some ⟨b, o + off, none⟩) ∧ F b ∧
      ∃ vs : Nat → Value, (∀ j x, row[j]? = some x → w.cell? ⟨b, o + j, none⟩ = some (vs j)) ∧ (∀ j x, row[j]? = some x → RepC F w (vs j) x)
  | .fn f cap => ∃ cs : Array Value, v = .func (.func f) #[] cs ∧ cs.size = cap.length ∧
      ∀ (i : Nat) (p : Nat × Nat), cap[i]? = some p → match mem p.1 with
        | .box _ => cs[i]? = some (Value.pointer (some ⟨(g p.1).blk, p.2, none⟩))
        | .dead => True
        | _ => False
  | .anyb => ∃ b : Bool, v = .bool b

def V0 (g : Gs) (F : Nat → Prop) (w : World) (mem : Mem) (v : Value) : PV → Prop
  | .one p => V1 g F w mem v p
  | .agg xs => ∃ vs : Array Value, v = .agg vs ∧ vs.size = xs.length ∧ ∀ (i : Nat) (p : P1), xs[i]? = some p → ∃ u, vs[i]? = some u ∧ V1 g F w mem u p
  | .tup _ => False

def VR (g : Gs) (F : Nat → Prop) (w : World) (mem : Mem) (v : Value) : PV → Prop
  | .tup xs => ∃ vs : Array Value, v = .tuple vs ∧ vs.size = xs.length ∧ ∀ (i : Nat) (p : PV), xs[i]? = some p → ∃ u, vs[i]? = some u ∧ V0 g F w mem u p
  | p => V0 g F w mem v p

/-- What one cell of an array holds instead. -/
def ovG : List ((Nat × Nat) × P1) → Nat → Nat → Option P1
  | [], _, _ => none
  | ((a, b), p) :: l, i, j => if i = a ∧ j = b then some p else ovG l i j
def ovS : List ((Nat × Nat) × P1) → Nat → Nat → P1 → List ((Nat × Nat) × P1)
  | [], _, _, _ => []
  | ((a, b), p) :: l, i, j, q => if i = a ∧ j = b then ((a, b), q) :: l else ((a, b), p) :: ovS l i j q
/-- No such cell lies there. -/
def ovF : List ((Nat × Nat) × P1) → Nat → Nat → Nat → Prop
  | [], _, _, _ => True
  | ((a, b), _) :: l, i, off, n => (i = a → b < off ∨ off + n ≤ b) ∧ ovF l i off n
def ovR (g : Gs) (F : Nat → Prop) (w : World) (mem : Mem) (ov : List ((Nat × Nat) × P1)) (i j : Nat) (v : Value) (x : C) : Prop :=
  match ovG ov i j with
  | some p => V1 g F w mem v p
  | none => RepC F w v x

def BlkR (g : Gs) (F : Nat → Prop) (w : World) (mem : Mem) (id : Nat) : Blk → Prop
  | .un => True
  | .dead => True
  | .box cs => ∃ cells t, w.heap[(g id).blk]? = some (.cells cells t (0, 0)) ∧ cells.size = cs.length ∧
      ∀ (i : Nat) (p : P1), cs[i]? = some p → ∃ v, cells[i]? = some v ∧ V1 g F w mem v p
  | .arr sz rows => (∀ r ∈ rows, r.length = sz) ∧
      (((g id).nilb = true ∧ rows = []) ∨
      ((g id).nilb = false ∧ rows.length ≤ (g id).cap ∧ ∃ cells t, w.heap[(g id).blk]? = some (.cells cells t (0, 0)) ∧
        (g id).off + (g id).cap * sz ≤ cells.size ∧
        ∀ (i j : Nat) (r : List C) (x : C), rows[i]? = some r → r[j]? = some x → ∃ v, cells[(g id).off + (i * sz + j)]? = some v ∧ RepC F w v x))
  | .frz rows => RepC F w (hdr (g id) rows.length) (.lst rows)
  | .arx sz rows ov => (∀ r ∈ rows, r.length = sz) ∧ (g id).nilb = false ∧ rows.length ≤ (g id).cap ∧ ∃ cells t, w.heap[(g id).blk]? = some (.cells cells t (0, 0)) ∧
        (g id).off + (g id).cap * sz ≤ cells.size ∧
        ∀ (i j : Nat) (r : List C) (x : C), rows[i]? = some r → r[j]? = some x → ∃ v, cells[(g id).off + (i * sz + j)]? = some v ∧ ovR g F w mem ov i j v x
  | .arz sz n zs => zs.length = sz ∧ (g id).nilb = false ∧ n ≤ (g id).cap ∧ ∃ cells t, w.heap[(g id).blk]? = some (.cells cells t (0, 0)) ∧
        (g id).off + (g id).cap * sz ≤ cells.size ∧
        ∀ (i j : Nat) (z : P1), i < n → zs[j]? = some z → ∃ v, cells[(g id).off + (i * sz + j)]? = some v ∧ V1 g F w mem v z

/-- A block that this text may write. -/
def ownB (g : Gs) (id : Nat) : Blk → Bool
  | .box _ => true
  | .arr _ _ => !(g id).nilb
  | .arx _ _ _ => true
  | .arz _ _ _ => true
  | _ => false
attribute [simp] ownB
def owns (g : Gs) (mem : Mem) (id : Nat) : Bool := ownB g id (mem id)

/-- Local memory stands in the world. 'F': blocks that hold data for good; 'X': blocks that stay as they are. -/
structure MR (g : Gs) (F X : Nat → Prop) (w : World) (mem : Mem) : Prop where
  blk : ∀ id, BlkR g F w mem id (mem id)
  apart : ∀ i j, i ≠ j → owns g mem i = true → owns g mem j = true → (g i).blk ≠ (g j).blk
  own : ∀ i, owns g mem i = true → ¬ X (g i).blk ∧ (g i).blk < w.heap.size
  sub : ∀ b, F b → X b
  lt : ∀ b, X b → b < w.heap.size

/-- From w to w' nothing of 'X' has turned. -/
structure Pr (X : Nat → Prop) (w w' : World) : Prop where
  os : w'.os = w.os
  tape : w'.tape = w.tape
  output : w'.output = w.output
  size : w.heap.size ≤ w'.heap.size
  block : ∀ b, X b → w'.heap[b]? = w.heap[b]?

theorem Pr.refl (X : Nat → Prop) (w : World) : Pr X w w := ⟨rfl, rfl, rfl, Nat.le_refl _, fun _ _ => rfl⟩
theorem Pr.trans {X X' : Nat → Prop} {a b c : World} (h : Pr X a b) (k : Pr X' b c) (hX : ∀ i, X i → X' i) : Pr X a c :=
  ⟨k.os.trans h.os, k.tape.trans h.tape, k.output.trans h.output, Nat.le_trans h.size k.size, fun i hi => (k.block i (hX i hi)).trans (h.block i hi)⟩

/-- How a memory may go on: names stay, lengths stay, blocks die. -/
def Goes (g g' : Gs) : Blk → Blk → Nat → Prop
  | .un, _, _ => True
  | _, .dead, _ => True
  | .dead, b, _ => b = .dead
  | .box _, .box _, id => g' id = g id
  | .arr sz rows, .arr sz' rows', id => sz = sz' ∧ rows.length = rows'.length ∧ g' id = g id
  | .arr _ rows, .frz rows', id => rows.length = rows'.length ∧ g' id = g id
  | .frz rows, .frz rows', id => rows.length = rows'.length ∧ g' id = g id
  | .arx sz rows _, .arx sz' rows' _, id => sz = sz' ∧ rows.length = rows'.length ∧ g' id = g id
  | .arx sz rows _, .arr sz' rows', id => sz = sz' ∧ rows.length = rows'.length ∧ g' id = g id
  | .arx _ rows _, .frz rows', id => rows.length = rows'.length ∧ g' id = g id
  | .arz _ n _, .frz rows', id => n = rows'.length ∧ g' id = g id
  | .arz sz n _, .arz sz' n' _, id => sz = sz' ∧ n = n' ∧ g' id = g id
  | .arz sz n _, .arx sz' rows' _, id => sz = sz' ∧ n = rows'.length ∧ g' id = g id
  | .arz sz n _, .arr sz' rows', id => sz = sz' ∧ n = rows'.length ∧ g' id = g id
  | _, _, _ => False

theorem V1.goes {g g' : Gs} {F F' : Nat → Prop} {w w' : World} {mem mem' : Mem} {v : Value} {p : P1} (h : V1 g F w mem v p)
    (hF : ∀ b, F b → F' b) (hw : ∀ b, F b → w'.heap[b]? = w.heap[b]?) (hm : ∀ id, Goes g g' (mem id) (mem' id) id) : V1 g' F' w' mem' v p := by
  cases p with
  | top => trivial
  | c x => exact RepC.mono h hF hw
  | nil => exact h
  | ms id =>
    have := hm id
    simp only [V1] at h ⊢
    revert h this
    cases mem id <;> cases mem' id <;> simp [Goes]
    all_goals first
      | (rintro h rfl h2 h3; rw [h3, ← h2]; exact h)
      | (rintro h h2 h3; rw [h3, ← h2]; exact h)
  | ptr id off =>
    have := hm id
    simp only [V1] at h ⊢
    revert h this
    cases mem id <;> cases mem' id <;> simp [Goes]
    rintro h h2; rw [h2]; exact h
  | ep id i off =>
    have := hm id
    simp only [V1] at h ⊢
    revert h this
    cases mem id <;> cases mem' id <;> simp [Goes]
    all_goals (rintro h h1 rfl h2 h3; rw [h3, ← h2]; exact ⟨h, h1⟩)
  | fp row off =>
    obtain ⟨b, o, hv, hb, vs, h1, h2⟩ := h
    exact ⟨b, o, hv, hF b hb, vs, fun j x hx => by rw [← h1 j x hx]; simp only [World.cell?, hw b hb], fun j x hx => (h2 j x hx).mono hF hw⟩
  | fn f cap =>
    obtain ⟨cs, hv, hs, hc⟩ := h
    refine ⟨cs, hv, hs, fun i p hp => ?_⟩
    have h1 := hc i p hp
    have := hm p.1
    revert h1 this
    cases mem p.1 <;> cases mem' p.1 <;> simp [Goes]
    rintro h h2; rw [h2]; exact h
  | anyb => exact h

theorem V0.goes {g g' : Gs} {F F' : Nat → Prop} {w w' : World} {mem mem' : Mem} {v : Value} {p : PV} (h : V0 g F w mem v p)
    (hF : ∀ b, F b → F' b) (hw : ∀ b, F b → w'.heap[b]? = w.heap[b]?) (hm : ∀ id, Goes g g' (mem id) (mem' id) id) : V0 g' F' w' mem' v p := by
  cases p with
  | one p => exact V1.goes h hF hw hm
  | agg xs =>
    obtain ⟨vs, hv, hs, hc⟩ := h
    exact ⟨vs, hv, hs, fun i p hp => let ⟨u, hu, h1⟩ := hc i p hp; ⟨u, hu, V1.goes h1 hF hw hm⟩⟩
  | tup xs => exact h

theorem VR.goes {g g' : Gs} {F F' : Nat → Prop} {w w' : World} {mem mem' : Mem} {v : Value} {p : PV} (h : VR g F w mem v p)
    (hF : ∀ b, F b → F' b) (hw : ∀ b, F b → w'.heap[b]? = w.heap[b]?) (hm : ∀ id, Goes g g' (mem id) (mem' id) id) : VR g' F' w' mem' v p := by
  cases p with
  | one p => exact V0.goes (p := .one p) h hF hw hm
  | agg xs => exact V0.goes (p := .agg xs) h hF hw hm
  | tup xs =>
    obtain ⟨vs, hv, hs, hc⟩ := h
    exact ⟨vs, hv, hs, fun i p hp => let ⟨u, hu, h1⟩ := hc i p hp; ⟨u, hu, V0.goes h1 hF hw hm⟩⟩

theorem ovR.goes {g g' : Gs} {F F' : Nat → Prop} {w w' : World} {mem mem' : Mem} {ov : List ((Nat × Nat) × P1)} {i j : Nat} {v : Value} {x : C} (h : ovR g F w mem ov i j v x)
    (hF : ∀ b, F b → F' b) (hw : ∀ b, F b → w'.heap[b]? = w.heap[b]?) (hm : ∀ id, Goes g g' (mem id) (mem' id) id) : ovR g' F' w' mem' ov i j v x := by
  unfold ovR at h ⊢
  split
  · rename_i p hp; rw [hp] at h; exact V1.goes h hF hw hm
  · rename_i hp; rw [hp] at h; exact RepC.mono h hF hw

theorem ovF_get {ov : List ((Nat × Nat) × P1)} {i off n j : Nat} (h : ovF ov i off n) (h1 : off ≤ j) (h2 : j < off + n) : ovG ov i j = none := by
  induction ov with
  | nil => rfl
  | cons o l ih =>
    obtain ⟨⟨a, b⟩, p⟩ := o
    simp only [ovF] at h
    simp only [ovG]
    rw [if_neg (fun ⟨e1, e2⟩ => by have := h.1 e1; omega)]
    exact ih h.2

theorem ovS_get {q : P1} {ov : List ((Nat × Nat) × P1)} {i j k m : Nat} (hs : (ovG ov i j).isSome = true) : ovG (ovS ov i j q) k m = if k = i ∧ m = j then some q else ovG ov k m := by
  induction ov with
  | nil => simp [ovG] at hs
  | cons o l ih =>
    obtain ⟨⟨a, b⟩, p⟩ := o
    simp only [ovG, ovS] at hs ⊢
    by_cases he : i = a ∧ j = b
    · rw [if_pos he]
      obtain ⟨rfl, rfl⟩ := he
      simp only [ovG]
      by_cases hk : k = i ∧ m = j
      · rw [if_pos hk, if_pos hk]
      · rw [if_neg hk, if_neg hk, if_neg hk]
    · rw [if_neg he] at hs ⊢
      simp only [ovG]
      rw [ih hs]
      by_cases hk : k = i ∧ m = j
      · obtain ⟨rfl, rfl⟩ := hk
        simp only [if_neg he, and_self, if_true]
      · rw [if_neg hk, if_neg hk]

theorem Goes.refl (g : Gs) (b : Blk) (id : Nat) : Goes g g b b id := by cases b <;> simp [Goes]

end Go.Proofs.K
/- How local memory goes on: a new block, a block written, a block frozen, a block that dies. -/
namespace Go.Proofs.K
open Go Go.RowKit

structure Ext (g : Gs) (F X : Nat → Prop) (w : World) (mem : Mem) (g' : Gs) (F' X' : Nat → Prop) (w' : World) (mem' : Mem) : Prop where
  pr : Pr X w w'
  hF : ∀ b, F b → F' b
  hX : ∀ b, X b → X' b
  fr : ∀ b, F' b → F b ∨ ¬ X b
  goes : ∀ id, Goes g g' (mem id) (mem' id) id

theorem Goes.trans {g g' g'' : Gs} {a b c : Blk} {id : Nat} (h : Goes g g' a b id) (k : Goes g' g'' b c id) : Goes g g'' a c id := by
  cases a <;> cases b <;> cases c <;> simp [Goes] at h k ⊢
  all_goals first
    | (rw [k, h]; done)
    | (obtain ⟨h1, h2, h3⟩ := h; obtain ⟨k1, k2, k3⟩ := k; exact ⟨h1.trans k1, h2.trans k2, k3.trans h3⟩)
    | (obtain ⟨h1, h2⟩ := h; exact k.elim)
    | (obtain ⟨h1, h2, h3⟩ := h; obtain ⟨k2, k3⟩ := k; exact ⟨h2.trans k2, k3.trans h3⟩)
    | (obtain ⟨h2, h3⟩ := h; obtain ⟨k2, k3⟩ := k; exact ⟨h2.trans k2, k3.trans h3⟩)

variable {g g' g'' : Gs} {F X F' X' F'' X'' : Nat → Prop} {w w' w'' : World} {mem mem' mem'' : Mem}

theorem Ext.refl (g : Gs) (F X : Nat → Prop) (w : World) (mem : Mem) : Ext g F X w mem g F X w mem :=
  ⟨Pr.refl _ _, fun _ h => h, fun _ h => h, fun _ h => .inl h, fun id => Goes.refl _ _ _⟩

theorem Ext.trans (h : Ext g F X w mem g' F' X' w' mem') (k : Ext g' F' X' w' mem' g'' F'' X'' w'' mem'') :
    Ext g F X w mem g'' F'' X'' w'' mem'' :=
  ⟨h.pr.trans k.pr h.hX, fun b hb => k.hF b (h.hF b hb), fun b hb => k.hX b (h.hX b hb),
   fun b hb => (k.fr b hb).elim (fun h1 => h.fr b h1) (fun h1 => .inr fun h2 => h1 (h.hX b h2)), fun id => (h.goes id).trans (k.goes id)⟩

theorem VR.ext {v : Value} {p : PV} (h : VR g F w mem v p) (m : MR g F X w mem) (e : Ext g F X w mem g' F' X' w' mem') : VR g' F' w' mem' v p :=
  VR.goes h e.hF (fun b hb => e.pr.block b (m.sub b hb)) e.goes
theorem V1.ext {v : Value} {p : P1} (h : V1 g F w mem v p) (m : MR g F X w mem) (e : Ext g F X w mem g' F' X' w' mem') : V1 g' F' w' mem' v p :=
  V1.goes h e.hF (fun b hb => e.pr.block b (m.sub b hb)) e.goes

/-- A block that is not touched stands on. -/
theorem BlkR.goes {id : Nat} {b : Blk} (h : BlkR g F w mem id b) (hF : ∀ b, F b → F' b) (hw : ∀ b, F b → w'.heap[b]? = w.heap[b]?)
    (hm : ∀ id, Goes g g' (mem id) (mem' id) id) (hg : g' id = g id)
    (hb : ownB g id b = true → w'.heap[(g id).blk]? = w.heap[(g id).blk]?) : BlkR g' F' w' mem' id b := by
  cases b with
  | un => trivial
  | dead => trivial
  | box cs =>
    obtain ⟨cells, t, h1, h2, h3⟩ := h
    refine ⟨cells, t, by rw [hg, hb rfl]; exact h1, h2, fun i p hp => ?_⟩
    obtain ⟨v, hv, h4⟩ := h3 i p hp
    exact ⟨v, hv, h4.goes hF hw hm⟩
  | arr sz rows =>
    obtain ⟨h0, h⟩ := h
    refine ⟨h0, ?_⟩
    rw [hg]
    rcases h with h | ⟨h1, h2, cells, t, h3, h4, h5⟩
    · exact .inl h
    · refine .inr ⟨h1, h2, cells, t, by rw [hb (by simp [h1])]; exact h3, h4, fun i j r x hr hx => ?_⟩
      obtain ⟨v, hv, h6⟩ := h5 i j r x hr hx
      exact ⟨v, hv, h6.mono hF hw⟩
  | frz rows =>
    simp only [BlkR] at h ⊢
    rw [hg]
    exact RepC.mono h hF hw
  | arx sz rows ov =>
    obtain ⟨h0, h1, h2, cells, t, h3, h4, h5⟩ := h
    refine ⟨h0, by rw [hg]; exact h1, by rw [hg]; exact h2, cells, t, by rw [hg, hb rfl]; exact h3, by rw [hg]; exact h4, fun i j r x hr hx => ?_⟩
    obtain ⟨v, hv, h6⟩ := h5 i j r x hr hx
    exact ⟨v, by rw [hg]; exact hv, h6.goes hF hw hm⟩
  | arz sz n zs =>
    obtain ⟨h0, h1, h2, cells, t, h3, h4, h5⟩ := h
    refine ⟨h0, by rw [hg]; exact h1, by rw [hg]; exact h2, cells, t, by rw [hg, hb rfl]; exact h3, by rw [hg]; exact h4, fun i j z hi hz => ?_⟩
    obtain ⟨v, hv, h6⟩ := h5 i j z hi hz
    exact ⟨v, by rw [hg]; exact hv, h6.goes hF hw hm⟩

/-- The world has drawn. -/
theorem MR.drew (m : MR g F X w mem) : MR g F X w.drew mem :=
  ⟨fun id => (m.blk id).goes (fun _ h => h) (fun _ _ => rfl) (fun id => Goes.refl _ _ _) rfl (fun _ => rfl), m.apart, m.own, m.sub, m.lt⟩
theorem Ext.drew : Ext g F X w mem g F X w.drew mem :=
  ⟨⟨rfl, rfl, rfl, Nat.le_refl _, fun _ _ => rfl⟩, fun _ h => h, fun _ h => h, fun _ h => .inl h, fun id => Goes.refl _ _ _⟩

theorem heap_alloc_lt (w : World) (o : Obj) {k : Nat} (h : k < w.heap.size) : (w.alloc o).heap[k]? = w.heap[k]? := Below.heap_alloc w o k h
theorem heap_alloc_new (w : World) (o : Obj) : (w.alloc o).heap[w.heap.size]? = some o := by
  show (w.heap.push o)[w.heap.size]? = _
  simp

/-- A new block under a new name. -/
theorem MR.add {id : Nat} {o : Obj} {b : Blk} {q : GB} (m : MR g F X w mem) (hid : mem id = .un) (hq : q.blk = w.heap.size)
    (hb : ∀ mem', mem' = upd mem id b → BlkR (upd g id q) F (w.alloc o) mem' id b) : MR (upd g id q) F X (w.alloc o) (upd mem id b) ∧
      Ext g F X w mem (upd g id q) F X (w.alloc o) (upd mem id b) := by
  have hgo : ∀ i, Goes g (upd g id q) (mem i) (upd mem id b i) i := fun i => by
    by_cases h : i = id
    · subst h; rw [hid]; trivial
    · rw [upd_ne _ _ h]
      cases mem i <;> simp [Goes, upd_ne _ _ h]
  have hown : ∀ i, owns (upd g id q) (upd mem id b) i = true → i ≠ id → owns g mem i = true := fun i h hne => by
    simpa [owns, upd_ne _ _ hne] using h
  have hpr : Pr X w (w.alloc o) := ⟨rfl, rfl, rfl, by simp, fun k hk => heap_alloc_lt _ _ (m.lt k hk)⟩
  refine ⟨⟨fun i => ?_, fun i j hij hi hj => ?_, fun i hi => ?_, m.sub, fun k hk => by have := m.lt k hk; simp; omega⟩,
    ⟨hpr, fun _ h => h, fun _ h => h, fun _ h => .inl h, hgo⟩⟩
  · by_cases h : i = id
    · subst h; rw [upd_same]; exact hb _ rfl
    · rw [upd_ne _ _ h]
      refine (m.blk i).goes (fun _ h => h) (fun k hk => heap_alloc_lt _ _ (m.lt k (m.sub k hk))) hgo (upd_ne _ _ h) (fun hc => heap_alloc_lt _ _ ?_)
      exact (m.own i hc).2
  · by_cases h : i = id
    · subst h
      have hj' := m.own j (hown j hj (Ne.symm hij))
      rw [upd_same, upd_ne _ _ (Ne.symm hij), hq]
      omega
    · by_cases h' : j = id
      · subst h'
        have hi' := m.own i (hown i hi h)
        rw [upd_same, upd_ne _ _ h, hq]
        omega
      · rw [upd_ne _ _ h, upd_ne _ _ h']
        exact m.apart i j hij (hown i hi h) (hown j hj h')
  · by_cases h : i = id
    · subst h
      rw [upd_same, hq]
      exact ⟨fun hx => by have := m.lt _ hx; omega, by simp⟩
    · have := m.own i (hown i hi h)
      rw [upd_ne _ _ h]
      exact ⟨this.1, by simp; omega⟩

/-- A block of our own is written: the block's contents are told anew. -/
theorem MR.put {id : Nat} {b : Blk} (m : MR g F X w mem) (ho : owns g mem id = true)
    (hgo : Goes g g (mem id) b id) (hob : owns g (upd mem id b) id = true)
    (hpr : w'.os = w.os ∧ w'.tape = w.tape ∧ w'.output = w.output ∧ w'.heap.size = w.heap.size)
    (hw : ∀ k, k ≠ (g id).blk → w'.heap[k]? = w.heap[k]?)
    (hb : ∀ mem', mem' = upd mem id b → (∀ i, Goes g g (mem i) (mem' i) i) → BlkR g F w' mem' id b) :
    MR g F X w' (upd mem id b) ∧ Ext g F X w mem g F X w' (upd mem id b) := by
  have hx := m.own id ho
  have hgo' : ∀ i, Goes g g (mem i) (upd mem id b i) i := fun i => by
    by_cases h : i = id
    · subst h; rw [upd_same]; exact hgo
    · rw [upd_ne _ _ h]; exact Goes.refl _ _ _
  have hXw : ∀ k, X k → w'.heap[k]? = w.heap[k]? := fun k hk => hw k fun e => hx.1 (e ▸ hk)
  have hown : ∀ i, owns g (upd mem id b) i = true → owns g mem i = true := fun i h => by
    by_cases e : i = id
    · subst e; exact ho
    · simpa [owns, upd_ne _ _ e] using h
  refine ⟨⟨fun i => ?_, fun i j hij hi hj => m.apart i j hij (hown i hi) (hown j hj), fun i hi => ⟨(m.own i (hown i hi)).1, by rw [hpr.2.2.2]; exact (m.own i (hown i hi)).2⟩, m.sub, fun k hk => by rw [hpr.2.2.2]; exact m.lt k hk⟩,
    ⟨⟨hpr.1, hpr.2.1, hpr.2.2.1, by rw [hpr.2.2.2]; exact Nat.le_refl _, hXw⟩, fun _ h => h, fun _ h => h, fun _ h => .inl h, hgo'⟩⟩
  by_cases h : i = id
  · subst h; rw [upd_same]; exact hb _ rfl hgo'
  · rw [upd_ne _ _ h]
    refine (m.blk i).goes (fun _ h => h) (fun k hk => hXw k (m.sub k hk)) hgo' rfl (fun hc => hw _ (m.apart i id h hc ho))

/-- An array of our own is frozen: it is data from now on. -/
theorem MR.freeze {id sz : Nat} {rows : List (List C)} (m : MR g F X w mem) (hid : mem id = .arr sz rows) :
    ∃ F' X', MR g F' X' w (upd mem id (.frz rows)) ∧ Ext g F X w mem g F' X' w (upd mem id (.frz rows)) ∧ RepC F' w (hdr (g id) rows.length) (.lst rows) := by
  have hblk := m.blk id
  rw [hid] at hblk
  obtain ⟨hsz, hblk⟩ := hblk
  let D : Nat → Prop := fun b => (g id).nilb = false ∧ b = (g id).blk
  have hgo' : ∀ i, Goes g g (mem i) (upd mem id (.frz rows) i) i := fun i => by
    by_cases h : i = id
    · subst h; rw [upd_same, hid]; simp [Goes]
    · rw [upd_ne _ _ h]; exact Goes.refl _ _ _
  have hown : ∀ i, owns g (upd mem id (.frz rows)) i = true → i ≠ id ∧ owns g mem i = true := fun i h => by
    by_cases e : i = id
    · subst e; simp [owns] at h
    · exact ⟨e, by simpa [owns, upd_ne _ _ e] using h⟩
  have hrep : RepC (fun b => F b ∨ D b) w (hdr (g id) rows.length) (.lst rows) := by
    rcases hblk with ⟨h1, h2⟩ | ⟨h1, h2, cells, t, h3, h4, h5⟩
    · subst h2; simp only [hdr, h1, if_true]; exact .nil _ _
    · simp only [hdr, h1, Bool.false_eq_true, if_false]
      have hc : ∀ i j r x, rows[i]? = some r → r[j]? = some x → cells[(g id).off + (i * sz + j)]? = some (cells.getD ((g id).off + (i * sz + j)) undef) := fun i j r x hr hx => by
        obtain ⟨v, hv, _⟩ := h5 i j r x hr hx
        simp [hv]
      refine .lst (g id).blk (g id).off (g id).cap rows sz (fun i j => cells.getD ((g id).off + (i * sz + j)) undef) (.inr ⟨h1, rfl⟩) h2 hsz (fun i j r x hr hx => ?_) (fun i j r x hr hx => ?_)
      · simp only [World.cell?, h3, Option.isSome_none, Bool.false_eq_true, if_false]
        exact hc i j r x hr hx
      · obtain ⟨v, hv, h6⟩ := h5 i j r x hr hx
        have : cells.getD ((g id).off + (i * sz + j)) undef = v := by simp [hv]
        rw [this]
        exact h6.mono (fun _ h => .inl h) (fun _ _ => rfl)
  have hnx : ∀ b, D b → ¬ X b := fun b ⟨h1, h2⟩ => by
    have : owns g mem id = true := by simp [owns, hid, h1]
    rw [h2]; exact (m.own id this).1
  have hlt : ∀ b, D b → b < w.heap.size := fun b ⟨h1, h2⟩ => by
    have : owns g mem id = true := by simp [owns, hid, h1]
    rw [h2]; exact (m.own id this).2
  refine ⟨fun b => F b ∨ D b, fun b => X b ∨ D b, ⟨fun i => ?_, fun i j hij hi hj => m.apart i j hij (hown i hi).2 (hown j hj).2, fun i hi => ?_,
    fun b hb => hb.imp (m.sub b) (fun h => h), fun b hb => hb.elim (m.lt b) (hlt b)⟩,
    ⟨Pr.refl _ _, fun _ h => .inl h, fun _ h => .inl h, fun b hb => hb.imp (fun h => h) (hnx b), hgo'⟩, hrep⟩
  · by_cases h : i = id
    · subst h; rw [upd_same]; exact hrep
    · rw [upd_ne _ _ h]
      exact (m.blk i).goes (fun _ h => .inl h) (fun _ _ => rfl) hgo' rfl (fun _ => rfl)
  · obtain ⟨hne, hi'⟩ := hown i hi
    have := m.own i hi'
    refine ⟨fun hx => hx.elim this.1 fun ⟨h1, h2⟩ => ?_, this.2⟩
    have ho : owns g mem id = true := by simp [owns, hid, h1]
    exact m.apart i id hne hi' ho h2

/-- A block is forgotten. -/
theorem MR.kill {id : Nat} (m : MR g F X w mem) (hid : mem id ≠ .un ∨ True) : MR g F X w (upd mem id .dead) := by
  have hown : ∀ i, owns g (upd mem id .dead) i = true → owns g mem i = true := fun i h => by
    by_cases e : i = id
    · subst e; simp [owns] at h
    · simpa [owns, upd_ne _ _ e] using h
  have hgo' : ∀ i, Goes g g (mem i) (upd mem id .dead i) i := fun i => by
    by_cases h : i = id
    · subst h; rw [upd_same]; cases mem i <;> simp [Goes]
    · rw [upd_ne _ _ h]; exact Goes.refl _ _ _
  refine ⟨fun i => ?_, fun i j hij hi hj => m.apart i j hij (hown i hi) (hown j hj), fun i hi => m.own i (hown i hi), m.sub, m.lt⟩
  by_cases h : i = id
  · subst h; rw [upd_same]; trivial
  · rw [upd_ne _ _ h]
    exact (m.blk i).goes (fun _ h => h) (fun _ _ => rfl) hgo' rfl (fun _ => rfl)

theorem Ext.kill {id : Nat} : Ext g F X w mem g F X w (upd mem id .dead) :=
  ⟨Pr.refl _ _, fun _ h => h, fun _ h => h, fun _ h => .inl h, fun i => by
    by_cases h : i = id
    · subst h; rw [upd_same]; cases mem i <;> simp [Goes]
    · rw [upd_ne _ _ h]; exact Goes.refl _ _ _⟩

/-- An own array's block goes over to a new name (the elder name dies); its contents are told anew. -/
theorem MR.rename {id nid sz : Nat} {rows : List (List C)} {b : Blk} {q : GB} (m : MR g F X w mem) (hid : mem id = .arr sz rows) (hnid : mem nid = .un)
    (hq : q.blk = (g id).blk) (hqn : q.nilb = (g id).nilb) (hbs : ∃ sz' rows', b = .arr sz' rows')
    (hpr : w'.os = w.os ∧ w'.tape = w.tape ∧ w'.output = w.output ∧ w'.heap.size = w.heap.size)
    (hw : ∀ k, ((g id).nilb = true ∨ k ≠ (g id).blk) → w'.heap[k]? = w.heap[k]?)
    (hb : ∀ mem', BlkR (upd g nid q) F w' mem' nid b) :
    MR (upd g nid q) F X w' (upd (upd mem id .dead) nid b) ∧ Ext g F X w mem (upd g nid q) F X w' (upd (upd mem id .dead) nid b) := by
  have hne : id ≠ nid := fun e => by subst e; rw [hid] at hnid; cases hnid
  have hgo' : ∀ i, Goes g (upd g nid q) (mem i) (upd (upd mem id .dead) nid b i) i := fun i => by
    by_cases h : i = nid
    · subst h; rw [hnid]; trivial
    · rw [upd_ne _ _ h]
      by_cases h2 : i = id
      · subst h2; rw [upd_same, hid]; simp [Goes]
      · rw [upd_ne _ _ h2]; cases mem i <;> simp [Goes, upd_ne _ _ h]
  have hown : ∀ i, owns (upd g nid q) (upd (upd mem id .dead) nid b) i = true → (i = nid ∧ (g id).nilb = false) ∨ (i ≠ nid ∧ i ≠ id ∧ owns g mem i = true) := fun i h => by
    by_cases e : i = nid
    · subst e
      obtain ⟨sz', rows', rfl⟩ := hbs
      left
      simp only [owns, ownB, upd_same, hqn, Bool.not_eq_true'] at h
      exact ⟨rfl, h⟩
    · right
      by_cases e2 : i = id
      · subst e2; simp [owns, upd_ne _ _ e] at h
      · exact ⟨e, e2, by simpa [owns, upd_ne _ _ e, upd_ne _ _ e2] using h⟩
  have hoid : (g id).nilb = false → owns g mem id = true := fun h => by simp [owns, hid, h]
  have hXw : ∀ k, X k → w'.heap[k]? = w.heap[k]? := fun k hk => hw k (by
    cases hn : (g id).nilb
    · exact .inr fun e => (m.own id (hoid hn)).1 (e ▸ hk)
    · exact .inl rfl)
  refine ⟨⟨fun i => ?_, fun i j hij hi hj => ?_, fun i hi => ?_, m.sub, fun k hk => by rw [hpr.2.2.2]; exact m.lt k hk⟩,
    ⟨⟨hpr.1, hpr.2.1, hpr.2.2.1, by rw [hpr.2.2.2]; exact Nat.le_refl _, hXw⟩, fun _ h => h, fun _ h => h, fun _ h => .inl h, hgo'⟩⟩
  · by_cases h : i = nid
    · subst h; rw [upd_same]; exact hb _
    · rw [upd_ne _ _ h]
      by_cases h2 : i = id
      · subst h2; rw [upd_same]; trivial
      · rw [upd_ne _ _ h2]
        refine (m.blk i).goes (fun _ h => h) (fun k hk => hXw k (m.sub k hk)) hgo' (upd_ne _ _ h) (fun hc => hw _ ?_)
        cases hn : (g id).nilb
        · exact .inr (m.apart i id h2 hc (hoid hn))
        · exact .inl rfl
  · rcases hown i hi with ⟨rfl, hn⟩ | ⟨h1, h2, h3⟩ <;> rcases hown j hj with ⟨rfl, hn'⟩ | ⟨k1, k2, k3⟩
    · exact absurd rfl hij
    · rw [upd_same, upd_ne _ _ k1, hq]; exact m.apart id j (Ne.symm k2) (hoid hn) k3
    · rw [upd_same, upd_ne _ _ h1, hq]; exact m.apart i id h2 h3 (hoid hn')
    · rw [upd_ne _ _ h1, upd_ne _ _ k1]; exact m.apart i j hij h3 k3
  · rw [hpr.2.2.2]
    rcases hown i hi with ⟨rfl, hn⟩ | ⟨h1, h2, h3⟩
    · rw [upd_same, hq]; exact m.own id (hoid hn)
    · rw [upd_ne _ _ h1]; exact m.own i h3

end Go.Proofs.K
/- The operations on abstract values. -/
namespace Go.Proofs.K
open Go Go.RowKit

inductive TK where
  | int (k : IntKind) | bool | str | slice (e : TypeId) | struct (fs : List (Nat × Nat)) | other
  deriving Inhabited

structure TI where
  ok : Bool
  k : TK
  size : Nat
  bytes : Nat
  zero : List P1
  deriving Inhabited

def p1Of : Value → P1
  | .int k n => .c (.int k n)
  | .bool b => .c (.bool b)
  | .string s => .c (.str s)
  | .slice none 0 0 => .nil
  | _ => .top

def tkS : Option (List (Nat × Nat)) → TK
  | some l => .struct l
  | none => .other

def tkOf (P : Program) : TypeDesc → TK
  | .int k => .int k
  | .bool => .bool
  | .string => .str
  | .slice e => .slice e
  | .struct fs => tkS (fs.toList.mapM (fun f => (P.info? f.type).map fun i => (f.offset, i.size)))
  | _ => .other

def ti (P : Program) (t : TypeId) : TI :=
  match P.info? t, P.underlying t with
  | some i, some d => match i.zero with
    | some z => if z.cells.size = i.size then ⟨true, tkOf P d, i.size, i.bytes, z.cells.toList.map p1Of⟩ else ⟨false, .other, 0, 0, []⟩
    | none => ⟨false, .other, 0, 0, []⟩
  | _, _ => ⟨false, .other, 0, 0, []⟩

theorem ti_ok {P : Program} {t : TypeId} (h : (ti P t).ok = true) : ∃ i d z, P.info? t = some i ∧ P.underlying t = some d ∧ i.zero = some z ∧
    (ti P t).k = tkOf P d ∧ (ti P t).size = i.size ∧ (ti P t).bytes = i.bytes ∧ (ti P t).zero = z.cells.toList.map p1Of ∧ z.cells.size = i.size := by
  unfold ti at *
  split at h
  · rename_i i d hi hd
    split at h
    · rename_i z hz
      split at h
      · rename_i hsz
        exact ⟨i, d, z, hi, hd, hz, by simp [hi, hd, hz, hsz]⟩
      · cases h
    · cases h
  · cases h

def PV.cells : PV → List P1
  | .one p => [p]
  | .agg xs => xs
  | .tup _ => []

def toC1 (mem : Mem) : P1 → Option C
  | .c x => some x
  | .nil => some (.lst [])
  | .ms id => match mem id with
    | .arr _ rows => some (.lst rows)
    | .frz rows => some (.lst rows)
    | _ => none
  | _ => none

def rowC (mem : Mem) : List P1 → Option (List C)
  | [] => some []
  | p :: ps => match toC1 mem p, rowC mem ps with
    | some x, some xs => some (x :: xs)
    | _, _ => none

def frzs (mem : Mem) : List P1 → List (Nat × Blk)
  | [] => []
  | .ms id :: ps => match mem id with
    | .arr _ rows => (id, .frz rows) :: frzs mem ps
    | _ => frzs mem ps
  | _ :: ps => frzs mem ps

def p1IsAgg : TK → Bool
  | .struct _ => true
  | _ => false

def loadRow (agg : Bool) (size : Nat) (row : List C) (off : Nat) : Prop × PV :=
  if agg then (off + size ≤ row.length, .agg (((row.drop off).take size).map .c)) else (off < row.length, .one (.c (row.getD off default)))

def loadF (s : TI) (mem : Mem) : PV → Option (Prop × PV)
  | .one (.ptr id off) => match mem id with
    | .box cs =>
      if p1IsAgg s.k then (if off + s.size ≤ cs.length then some (True, .agg ((cs.drop off).take s.size)) else none)
      else match cs[off]? with
        | some p => some (True, .one p)
        | none => none
    | _ => none
  | .one (.fp row off) => some (loadRow (p1IsAgg s.k) s.size row off)
  | .one (.ep id i off) => match mem id with
    | .arr _ rows => some (loadRow (p1IsAgg s.k) s.size (rows.getD i []) off)
    | .arx _ rows ov => if p1IsAgg s.k then some (ovF ov i off s.size ∧ (loadRow true s.size (rows.getD i []) off).1, (loadRow true s.size (rows.getD i []) off).2)
        else (match ovG ov i off with
          | some p => some (off < (rows.getD i []).length, .one p)
          | none => some (loadRow false s.size (rows.getD i []) off))
    | _ => none
  | _ => none

variable {P : Program} {g : Gs} {F X : Nat → Prop} {w : World} {mem : Mem}

theorem agg_struct {d : TypeDesc} (h : p1IsAgg (tkOf P d) = true) : ∃ fs, d = .struct fs := by
  cases d <;> simp [tkOf, p1IsAgg] at h
  · exact ⟨_, rfl⟩

/-- Is it loaded cell by cell? The kinds that this text knows. -/
def TI.plain (s : TI) : Bool :=
  match s.k with
  | .other => false
  | _ => s.ok

theorem run_isAgg {t : TypeId} (h : (ti P t).plain = true) : (isAgg t).run P w = .ok (p1IsAgg (ti P t).k) w := by
  have hok : (ti P t).ok = true := by unfold TI.plain at h; split at h <;> simp_all
  obtain ⟨i, d, z, hi, hd, hz, hk, hs, hb, hzz, hzs⟩ := ti_ok hok
  rw [hk]
  unfold TI.plain at h
  rw [hk] at h
  simp only [isAgg, Sem.run_bind, run_underlying hd, Result.andThen_ok]
  cases d <;> simp [tkOf, p1IsAgg] at h ⊢
  rename_i fs
  cases hq : (fs.toList.mapM (fun f => (P.info? f.type).map fun i => (f.offset, i.size))) <;> simp [hq, tkS] at h ⊢

theorem run_sizeOf' {t : TypeId} (h : (ti P t).ok = true) : (sizeOf t).run P w = .ok (ti P t).size w := by
  obtain ⟨i, d, z, hi, hd, hz, hk, hs, hb, hzz, hzs⟩ := ti_ok h
  simp [sizeOf, typeInfo, hi, hs]

theorem plain_ok {s : TI} (h : s.plain = true) : s.ok = true := by unfold TI.plain at h; split at h <;> simp_all

theorem run_loadAt {t : TypeId} {a : Addr} (h : (ti P t).plain = true) :
    (Instr.loadAt t (.pointer (some a))).run P w = if p1IsAgg (ti P t).k then ((loadCells a (ti P t).size).run P w).andThen fun cs w => .ok (.agg cs) w else (load a).run P w := by
  simp only [Instr.loadAt, Instr.sureAddr, Sem.run_bind, Sem.run_pure, Result.andThen_ok, loadVar, run_isAgg h]
  by_cases hb : p1IsAgg (ti P t).k = true
  · simp only [hb, if_true]
    simp [run_sizeOf' (plain_ok h)]
  · simp only [hb, Bool.false_eq_true, if_false]

theorem cell_of_block {b : Nat} {cells : Array Value} {t : TypeId} {fz : Nat × Nat} (h : w.heap[b]? = some (.cells cells t fz)) (o : Nat) :
    w.cell? ⟨b, o, none⟩ = cells[o]? := by simp [World.cell?, h]

theorem addr_add (b o n : Nat) : Addr.add ⟨b, o, none⟩ n = ⟨b, o + n, none⟩ := Addr.add_lit b o n

theorem load_row {t : TypeId} {b o : Nat} {row : List C} {off : Nat} {φ : Prop} {r : PV} (h : (ti P t).plain = true)
    (hr : loadRow (p1IsAgg (ti P t).k) (ti P t).size row off = (φ, r)) (hφ : φ)
    (hc : ∀ j x, (if p1IsAgg (ti P t).k then off ≤ j ∧ j < off + (ti P t).size else j = off) → row[j]? = some x → ∃ v, w.cell? ⟨b, o + j, none⟩ = some v ∧ RepC F w v x) :
    ∃ v, (Instr.loadAt t (.pointer (some ⟨b, o + off, none⟩))).run P w = .ok v w ∧ VR g F w mem v r := by
  rw [run_loadAt h]
  unfold loadRow at hr
  by_cases hb : p1IsAgg (ti P t).k = true
  · simp only [hb, if_true] at hr ⊢
    obtain ⟨rfl, rfl⟩ := Prod.mk.inj hr
    have hcv : ∀ j, j < (ti P t).size → w.cell? (Addr.add ⟨b, o + off, none⟩ j) = some ((w.cell? ⟨b, o + (off + j), none⟩).getD undef) := fun j hj => by
      rw [addr_add, Nat.add_assoc]
      have : off + j < row.length := by omega
      obtain ⟨v, hv, _⟩ := hc (off + j) row[off + j] (by rw [if_pos hb]; omega) (by simp [this])
      simp [hv]
    rw [run_loadCells w _ _ _ hcv]
    refine ⟨_, rfl, _, rfl, by simp; omega, fun i p hp => ?_⟩
    simp only [List.getElem?_map, Option.map_eq_some_iff] at hp
    obtain ⟨x, hx, rfl⟩ := hp
    have hi : i < (ti P t).size := by
      by_cases hlt : i < (ti P t).size
      · exact hlt
      · rw [List.getElem?_take, if_neg hlt] at hx; cases hx
    rw [List.getElem?_take_of_lt hi, List.getElem?_drop] at hx
    obtain ⟨v, hv, hrep⟩ := hc _ x (by rw [if_pos hb]; omega) hx
    refine ⟨v, ?_, hrep⟩
    simp [hi, hv]
  · simp only [hb, Bool.false_eq_true, if_false] at hr ⊢
    obtain ⟨rfl, rfl⟩ := Prod.mk.inj hr
    obtain ⟨v, hv, hrep⟩ := hc off row[off] (by rw [if_neg hb]) (by simp [hφ])
    refine ⟨v, by simp [hv], ?_⟩
    have : row.getD off default = row[off] := by simp [List.getD, hφ]
    rw [this]
    exact hrep

theorem loadF_ok {t : TypeId} {p r : PV} {φ : Prop} {v : Value} (m : MR g F X w mem) (h : (ti P t).plain = true)
    (hr : loadF (ti P t) mem p = some (φ, r)) (hφ : φ) (hv : VR g F w mem v p) :
    ∃ u, (Instr.loadAt t v).run P w = .ok u w ∧ VR g F w mem u r := by
  unfold loadF at hr
  split at hr
  · rename_i id off
    have hv' : V1 g F w mem v (.ptr id off) := hv
    simp only [V1] at hv'
    split at hr
    · rename_i cs hm
      rw [hm] at hv'
      simp only at hv'
      subst hv'
      have hb := m.blk id
      rw [hm] at hb
      obtain ⟨cells, tt, h1, h2, h3⟩ := hb
      rw [run_loadAt h]
      by_cases hag : p1IsAgg (ti P t).k = true
      · simp only [hag, if_true] at hr ⊢
        split at hr
        · rename_i hle
          obtain ⟨rfl, rfl⟩ := Prod.mk.inj (Option.some.inj hr)
          have hcv : ∀ j, j < (ti P t).size → w.cell? (Addr.add ⟨(g id).blk, off, none⟩ j) = some (cells.getD (off + j) undef) := fun j hj => by
            rw [addr_add, cell_of_block h1]
            have : off + j < cells.size := by omega
            simp [this]
          rw [run_loadCells w _ _ _ hcv]
          refine ⟨_, rfl, _, rfl, by simp; omega, fun i p hp => ?_⟩
          have hi : i < (ti P t).size := by
            by_cases hlt : i < (ti P t).size
            · exact hlt
            · rw [List.getElem?_take, if_neg hlt] at hp; cases hp
          rw [List.getElem?_take_of_lt hi, List.getElem?_drop] at hp
          obtain ⟨u, hu, h4⟩ := h3 _ p hp
          exact ⟨u, by simp [hi, hu], h4⟩
        · cases hr
      · simp only [hag, Bool.false_eq_true, if_false] at hr ⊢
        split at hr
        · rename_i q hq
          obtain ⟨rfl, rfl⟩ := Prod.mk.inj (Option.some.inj hr)
          obtain ⟨u, hu, h4⟩ := h3 _ q hq
          refine ⟨u, ?_, h4⟩
          simp [cell_of_block h1, hu]
        · cases hr
    · cases hr
  · rename_i row off
    obtain ⟨b, o, rfl, hF, vs, h1, h2⟩ : V1 g F w mem v (.fp row off) := hv
    exact load_row h (Option.some.inj hr) hφ (fun j x _ hx => ⟨vs j, h1 j x hx, h2 j x hx⟩)
  · rename_i id i off
    have hv' : V1 g F w mem v (.ep id i off) := hv
    simp only [V1] at hv'
    split at hr
    · rename_i sz rows hm
      rw [hm] at hv'
      obtain ⟨rfl, hi⟩ := hv'
      have hb := m.blk id
      rw [hm] at hb
      obtain ⟨h0, hb⟩ := hb
      rcases hb with ⟨_, h1⟩ | ⟨_, h1, cells, tt, h2, h3, h4⟩
      · subst h1; simp at hi
      · have := load_row (P := P) (g := g) (mem := mem) (F := F) (w := w) (t := t) (b := (g id).blk) (o := (g id).off + i * sz) (row := rows.getD i []) (off := off) h (Option.some.inj hr) hφ (fun j x _ hx => by
          have hri : rows[i]? = some (rows.getD i []) := by simp [List.getD, hi]
          obtain ⟨v, hv, hrep⟩ := h4 i j _ x hri hx
          exact ⟨v, by rw [cell_of_block h2, Nat.add_assoc]; exact hv, hrep⟩)
        rw [Nat.add_assoc] at this
        exact this
    · rename_i sz rows ov hm
      rw [hm] at hv'
      obtain ⟨rfl, hi⟩ := hv'
      have hb := m.blk id
      rw [hm] at hb
      obtain ⟨h0, hn, h1, cells, tt, h2, h3, h4⟩ := hb
      have hri : rows[i]? = some (rows.getD i []) := by simp [List.getD, hi]
      have main : ∀ {φ' : Prop} (hφ : φ') (hne : ∀ j, (if p1IsAgg (ti P t).k then off ≤ j ∧ j < off + (ti P t).size else j = off) → ovG ov i j = none),
          loadRow (p1IsAgg (ti P t).k) (ti P t).size (rows.getD i []) off = (φ', r) → ∃ u, (Instr.loadAt t (.pointer (some ⟨(g id).blk, (g id).off + (i * sz + off), none⟩))).run P w = .ok u w ∧ VR g F w mem u r := fun hφ hne hr => by
        have := load_row (P := P) (g := g) (mem := mem) (F := F) (w := w) (t := t) (b := (g id).blk) (o := (g id).off + i * sz) (row := rows.getD i []) (off := off) h hr hφ (fun j x hj hx => by
          obtain ⟨v, hv, hrep⟩ := h4 i j _ x hri hx
          unfold ovR at hrep
          rw [hne j hj] at hrep
          exact ⟨v, by rw [cell_of_block h2, Nat.add_assoc]; exact hv, hrep⟩)
        rw [Nat.add_assoc] at this
        exact this
      split at hr
      · rename_i hag
        obtain ⟨rfl, rfl⟩ := Prod.mk.inj (Option.some.inj hr)
        exact main hφ.2 (fun j hj => by rw [if_pos hag] at hj; exact ovF_get hφ.1 hj.1 hj.2) (by rw [hag])
      · rename_i hag
        have hag' : p1IsAgg (ti P t).k = false := by simpa using hag
        split at hr
        · rename_i p hp
          obtain ⟨rfl, rfl⟩ := Prod.mk.inj (Option.some.inj hr)
          rw [run_loadAt h]
          simp only [hag, Bool.false_eq_true, if_false]
          obtain ⟨x, hx⟩ : ∃ x, (rows.getD i [])[off]? = some x := ⟨_, List.getElem?_eq_getElem hφ⟩
          obtain ⟨v, hv, hrep⟩ := h4 i off _ x hri hx
          unfold ovR at hrep
          rw [hp] at hrep
          refine ⟨v, ?_, hrep⟩
          simp [cell_of_block h2, hv]
        · rename_i hp
          exact main hφ (fun j hj => by rw [if_neg hag] at hj; subst hj; exact hp) (by rw [hag']; exact Option.some.inj hr)
    · cases hr
  · cases hr

end Go.Proofs.K
/- Stores; data made out of slot values. -/
namespace Go.Proofs.K
open Go Go.RowKit

variable {P : Program} {g : Gs} {F X : Nat → Prop} {w : World} {mem : Mem}

def live1 (mem : Mem) : P1 → Bool
  | .top => false
  | .c _ => true
  | .nil => true
  | .ms id => match mem id with
    | .arr _ _ => true
    | .frz _ => true
    | .arx _ _ _ => true
    | .arz _ _ _ => true
    | _ => false
  | .ptr id _ => match mem id with
    | .box _ => true
    | _ => false
  | .ep id _ _ => match mem id with
    | .arr _ _ => true
    | .arx _ _ _ => true
    | .arz _ _ _ => true
    | _ => false
  | .fp _ _ => true
  | .fn _ _ => true
  | .anyb => false

theorem RepC.oneCell {v : Value} {x : C} (h : RepC F w v x) : v.oneCell' = true := by cases h <;> rfl
theorem hdr_oneCell (q : GB) (n : Nat) : (hdr q n).oneCell' = true := by unfold hdr; split <;> rfl

theorem V1.oneCell {v : Value} {p : P1} (h : V1 g F w mem v p) (hl : live1 mem p = true) : v.oneCell' = true := by
  cases p <;> simp only [live1, V1] at h hl
  · cases hl
  · exact h.oneCell
  · subst h; rfl
  · split at hl <;> simp_all [hdr_oneCell]
  · split at hl <;> simp_all [Value.oneCell']
  · split at hl <;> simp_all [Value.oneCell']
  · obtain ⟨b, o, rfl, _⟩ := h; rfl
  · obtain ⟨cs, rfl, _⟩ := h; rfl
  · cases hl

/-- What an array of our own reads as. -/
theorem arr_rep {id sz : Nat} {rows : List (List C)} (m : MR g F X w mem) (hid : mem id = .arr sz rows) :
    RepC (fun b => F b ∨ b = (g id).blk) w (hdr (g id) rows.length) (.lst rows) := by
  obtain ⟨F', X', m', e, h⟩ := m.freeze hid
  have hb := m.blk id
  rw [hid] at hb
  obtain ⟨hsz, hb⟩ := hb
  rcases hb with ⟨h1, h2⟩ | ⟨h1, h2, cells, t, h3, h4, h5⟩
  · subst h2; simp only [hdr, h1, if_true]; exact .nil _ _
  · simp only [hdr, h1, Bool.false_eq_true, if_false]
    refine .lst (g id).blk (g id).off (g id).cap rows sz (fun i j => cells.getD ((g id).off + (i * sz + j)) undef) (.inr rfl) h2 hsz (fun i j r x hr hx => ?_) (fun i j r x hr hx => ?_)
    · obtain ⟨v, hv, _⟩ := h5 i j r x hr hx
      rw [cell_of_block h3, hv]; simp [hv]
    · obtain ⟨v, hv, h6⟩ := h5 i j r x hr hx
      have : cells.getD ((g id).off + (i * sz + j)) undef = v := by simp [hv]
      rw [this]
      exact h6.mono (fun _ h => .inl h) (fun _ _ => rfl)

def frzL (mem : Mem) : List P1 → List (Nat × Blk)
  | [] => []
  | .ms id :: ps => match mem id with
    | .arr _ rows => (id, .frz rows) :: frzL (upd mem id (.frz rows)) ps
    | _ => frzL mem ps
  | _ :: ps => frzL mem ps

theorem toC1_frz {id sz : Nat} {rows : List (List C)} (h : mem id = .arr sz rows) (p : P1) : toC1 (upd mem id (.frz rows)) p = toC1 mem p := by
  cases p <;> simp only [toC1]
  rename_i k
  by_cases e : k = id
  · subst e; simp [h]
  · rw [upd_ne _ _ e]

theorem rowC_frz {id sz : Nat} {rows : List (List C)} (h : mem id = .arr sz rows) : ∀ ps : List P1, rowC (upd mem id (.frz rows)) ps = rowC mem ps
  | [] => rfl
  | p :: ps => by simp only [rowC, toC1_frz h, rowC_frz h ps]

theorem toC1_nil_len {p : P1} {x : C} {v : Value} (hx : toC1 mem p = some x) (hv : V1 g F w mem v p) (m : MR g F X w mem)
    (hf : ∀ id sz rows, p = .ms id → mem id ≠ .arr sz rows) : RepC F w v x := by
  cases p <;> simp only [toC1] at hx <;> try (cases hx; done)
  · cases hx; exact hv
  · cases hx; simp only [V1] at hv; subst hv; exact .nil _ _
  · rename_i id
    split at hx
    · rename_i sz rows h; exact absurd h (hf id sz rows rfl)
    · rename_i rows h
      cases hx
      simp only [V1, h] at hv
      subst hv
      have := m.blk id
      rw [h] at this
      exact this
    · cases hx

/-- Values are made data: the arrays among them are frozen. -/
theorem freezeL : ∀ (ps : List P1) (mem : Mem) (F X : Nat → Prop) (m : MR g F X w mem) (vs : List Value) (xs : List C),
    rowC mem ps = some xs → vs.length = ps.length → (∀ (i : Nat) (p : P1) (v : Value), ps[i]? = some p → vs[i]? = some v → V1 g F w mem v p) →
    ∃ F' X', MR g F' X' w (updL mem (frzL mem ps)) ∧ Ext g F X w mem g F' X' w (updL mem (frzL mem ps)) ∧ xs.length = ps.length ∧
      ∀ (i : Nat) (x : C) (v : Value), xs[i]? = some x → vs[i]? = some v → RepC F' w v x
  | [], mem, F, X, m, vs, xs, hx, hl, hv => by
    cases hx
    exact ⟨F, X, m, Ext.refl _ _ _ _ _, rfl, fun i x v h => by simp at h⟩
  | p :: ps, mem, F, X, m, vs, xs, hx, hl, hv => by
    simp only [rowC] at hx
    split at hx
    · rename_i x xs' h1 h2
      cases hx
      cases vs with
      | nil => simp at hl
      | cons v vs =>
        have hv0 : V1 g F w mem v p := hv 0 p v (by simp) (by simp)
        have hvs : ∀ (i : Nat) (q : P1) (u : Value), ps[i]? = some q → vs[i]? = some u → V1 g F w mem u q := fun i q u hq hu => hv (i + 1) q u (by simpa using hq) (by simpa using hu)
        by_cases hfz : ∃ id sz rows, p = .ms id ∧ mem id = .arr sz rows
        · obtain ⟨id, sz, rows, rfl, hid⟩ := hfz
          obtain ⟨F1, X1, m1, e1, hr1⟩ := m.freeze hid
          have hfr : frzL mem (.ms id :: ps) = (id, .frz rows) :: frzL (upd mem id (.frz rows)) ps := by simp [frzL, hid]
          rw [hfr]
          obtain ⟨F2, X2, m2, e2, hl2, hr2⟩ := freezeL ps (upd mem id (.frz rows)) F1 X1 m1 vs xs' (by rw [rowC_frz hid]; exact h2) (by simpa using hl)
            (fun i q u hq hu => (hvs i q u hq hu).ext m e1)
          refine ⟨F2, X2, m2, e1.trans e2, by simp [hl2], fun i y u hy hu => ?_⟩
          cases i with
          | zero =>
            simp at hy hu
            subst hy hu
            simp only [toC1, hid] at h1
            cases h1
            simp only [V1, hid] at hv0
            subst hv0
            exact hr1.mono e2.hF (fun b hb => e2.pr.block b (m1.sub b hb))
          | succ i => exact hr2 i y u (by simpa using hy) (by simpa using hu)
        · have hfr : frzL mem (p :: ps) = frzL mem ps := by
            cases p <;> simp only [frzL]
            split
            · rename_i id' sz rows h; exact absurd ⟨_, _, _, rfl, h⟩ hfz
            · rfl
          rw [hfr]
          obtain ⟨F2, X2, m2, e2, hl2, hr2⟩ := freezeL ps mem F X m vs xs' h2 (by simpa using hl) hvs
          refine ⟨F2, X2, m2, e2, by simp [hl2], fun i y u hy hu => ?_⟩
          cases i with
          | zero =>
            simp at hy hu
            subst hy hu
            exact (toC1_nil_len h1 hv0 m (fun id sz rows hp hm => hfz ⟨id, sz, rows, hp, hm⟩)).mono e2.hF (fun b hb => e2.pr.block b (m.sub b hb))
          | succ i => exact hr2 i y u (by simpa using hy) (by simpa using hu)
    · cases hx

def splice {α : Type} (cs : List α) (off : Nat) (xs : List α) : List α := cs.take off ++ xs ++ cs.drop (off + xs.length)

theorem splice_length {α : Type} {cs xs : List α} {off : Nat} (h : off + xs.length ≤ cs.length) : (splice cs off xs).length = cs.length := by
  simp [splice]; omega

theorem splice_get {α : Type} {cs xs : List α} {off i : Nat} (h : off + xs.length ≤ cs.length) :
    (splice cs off xs)[i]? = if off ≤ i ∧ i < off + xs.length then xs[i - off]? else cs[i]? := by
  have hm : min off cs.length = off := by omega
  unfold splice
  rw [List.getElem?_append, List.getElem?_append]
  simp only [List.length_append, List.length_take, hm]
  by_cases h1 : i < off
  · have : i < off + xs.length := by omega
    simp [h1, this, List.getElem?_take]
    omega
  · by_cases h2 : i < off + xs.length
    · have : off ≤ i := by omega
      simp [h1, h2, this]
    · have : ¬ (off ≤ i ∧ i < off + xs.length) := by omega
      rw [if_neg h2, if_neg this, List.getElem?_drop]
      congr 1; omega

theorem run_storeAt {t : TypeId} {a : Addr} {v : Value} (h : (ti P t).ok = true) (hv : v.cells.size = (ti P t).size) :
    (Instr.storeAt t (.pointer (some a)) v).run P w = (storeCells a v.cells.toList).run P w := by
  simp [Instr.storeAt, Instr.sureAddr, storeVar, run_sizeOf' h, hv]

theorem setRow_frame (w : World) (b : Nat) (c : Array Value) :
    (w.setRow b c).os = w.os ∧ (w.setRow b c).tape = w.tape ∧ (w.setRow b c).output = w.output ∧ (w.setRow b c).heap.size = w.heap.size := by
  simp [World.setRow]

theorem setRow_other (w : World) (b : Nat) (c : Array Value) {k : Nat} (h : k ≠ b) : (w.setRow b c).heap[k]? = w.heap[k]? := by
  simp only [World.setRow, Array.getElem?_modify]
  rw [if_neg (by omega)]

/-- The cells of a value and of what it stands for. -/
theorem VR.cells_rel {v : Value} {p : PV} (h : VR g F w mem v p) (hl : p.cells.all (live1 mem) = true) (hne : p.cells ≠ []) :
    v.cells.size = p.cells.length ∧ (∀ u ∈ v.cells.toList, u.oneCell' = true) ∧
      ∀ (i : Nat) (q : P1) (u : Value), p.cells[i]? = some q → v.cells.toList[i]? = some u → V1 g F w mem u q := by
  cases p with
  | one p =>
    have h1 : V1 g F w mem v p := h
    simp only [PV.cells, List.all_cons, List.all_nil, Bool.and_true] at hl
    have ho := h1.oneCell hl
    have : v.cells = #[v] := by cases v <;> simp [Value.oneCell'] at ho <;> rfl
    rw [this]
    refine ⟨rfl, fun u hu => by simp at hu; subst hu; exact ho, fun i q u hq hu => ?_⟩
    cases i with
    | zero => simp [PV.cells] at hq hu; subst hq hu; exact h1
    | succ i => simp [PV.cells] at hq
  | agg xs =>
    obtain ⟨vs, rfl, hs, hc⟩ := h
    simp only [PV.cells, List.all_eq_true] at hl
    refine ⟨hs, fun u hu => ?_, fun i q u hq hu => ?_⟩
    · obtain ⟨i, hi⟩ := List.mem_iff_getElem?.1 hu
      simp only [Value.cells, Array.getElem?_toList] at hi
      have hlt : i < xs.length := by
        have := (Array.getElem?_eq_some_iff.1 hi).1; omega
      obtain ⟨u', hu', h1⟩ := hc i xs[i] (by simp [hlt])
      rw [hi] at hu'
      cases hu'
      exact h1.oneCell (hl _ (by simp))
    · simp only [Value.cells, Array.getElem?_toList] at hu
      obtain ⟨u', hu', h1⟩ := hc i q hq
      rw [hu] at hu'
      cases hu'
      exact h1
  | tup xs => exact absurd rfl hne

/-- A store into a box. -/
theorem store_box {t : TypeId} {id off : Nat} {cs : List P1} {x : PV} {va vx : Value} (m : MR g F X w mem) (h : (ti P t).ok = true)
    (hm : mem id = .box cs) (hs : x.cells.length = (ti P t).size) (hfit : off + x.cells.length ≤ cs.length) (hl : x.cells.all (live1 mem) = true) (hne : x.cells ≠ [])
    (ha : V1 g F w mem va (.ptr id off)) (hx : VR g F w mem vx x) :
    ∃ w', (Instr.storeAt t va vx).run P w = .ok () w' ∧ MR g F X w' (upd mem id (.box (splice cs off x.cells))) ∧
      Ext g F X w mem g F X w' (upd mem id (.box (splice cs off x.cells))) := by
  simp only [V1, hm] at ha
  subst ha
  obtain ⟨hsz, hone, hcr⟩ := hx.cells_rel hl hne
  have hb := m.blk id
  rw [hm] at hb
  obtain ⟨cells, tt, h1, h2, h3⟩ := hb
  rw [run_storeAt h (by omega)]
  have hrun := run_storeCells_at P (g id).blk off tt vx.cells.toList 0 cells w h1 (by simp [hsz]; omega) hone
  simp only [Nat.add_zero] at hrun
  refine ⟨_, hrun, ?_⟩
  have ho : owns g mem id = true := by simp [owns, hm]
  refine m.put ho (by rw [hm]; trivial) (by simp [owns]) (setRow_frame _ _ _) (fun k hk => setRow_other _ _ _ hk) (fun mem' hmem' hgo => ?_)
  have hlen : vx.cells.toList.length = x.cells.length := by simp [hsz]
  refine ⟨_, tt, setRow_heap w _ _ _ tt _ h1, ?_, fun i p hp => ?_⟩
  · rw [splice_length hfit]; simp [hsz]; omega
  · have hgo1 : ∀ (u : Value) (q : P1), V1 g F w mem u q → V1 g F (w.setRow (g id).blk (cells.toList.take off ++ vx.cells.toList ++ cells.toList.drop (off + vx.cells.toList.length)).toArray) mem' u q := fun u q hu =>
      hu.goes (fun _ h => h) (fun b hb => setRow_other _ _ _ (fun e => (m.own id ho).1 (m.sub _ (e ▸ hb)))) hgo
    have e := splice_get (cs := cells.toList) (xs := vx.cells.toList) (off := off) (i := i) (by simp [hsz]; omega)
    rw [splice_get hfit] at hp
    simp only [List.getElem?_toArray]
    unfold splice at e
    rw [e]
    by_cases hi : off ≤ i ∧ i < off + x.cells.length
    · rw [if_pos hi] at hp
      rw [if_pos (by omega)]
      have hlt : i - off < vx.cells.toList.length := by omega
      exact ⟨_, List.getElem?_eq_getElem hlt, hgo1 _ _ (hcr _ p _ hp (List.getElem?_eq_getElem hlt))⟩
    · rw [if_neg hi] at hp
      rw [if_neg (by omega)]
      obtain ⟨u, hu, h4⟩ := h3 i p hp
      exact ⟨u, by rw [Array.getElem?_toList]; exact hu, hgo1 _ _ h4⟩

/-- A store into an element of an array of our own: what is stored is data (its arrays have been frozen). -/
theorem store_elem {t : TypeId} {id i off sz : Nat} {rows : List (List C)} {ys : List C} {va vx : Value} (m : MR g F X w mem) (h : (ti P t).ok = true)
    (hm : mem id = .arr sz rows) (hs : vx.cells.size = (ti P t).size) (hyl : ys.length = (ti P t).size) (hfit : off + ys.length ≤ sz)
    (ha : V1 g F w mem va (.ep id i off)) (hx : ∀ (j : Nat) (y : C) (u : Value), ys[j]? = some y → vx.cells.toList[j]? = some u → RepC F w u y) :
    ∃ w', (Instr.storeAt t va vx).run P w = .ok () w' ∧ MR g F X w' (upd mem id (.arr sz (rows.set i (splice (rows.getD i []) off ys)))) ∧
      Ext g F X w mem g F X w' (upd mem id (.arr sz (rows.set i (splice (rows.getD i []) off ys)))) := by
  simp only [V1, hm] at ha
  obtain ⟨rfl, hi⟩ := ha
  have hb := m.blk id
  rw [hm] at hb
  obtain ⟨h0, hb⟩ := hb
  rcases hb with ⟨_, h1⟩ | ⟨hn, hcap, cells, tt, h1, h2, h3⟩
  · subst h1; simp at hi
  have hri : rows[i]? = some (rows.getD i []) := by simp [List.getD, hi]
  have hrl : (rows.getD i []).length = sz := h0 _ (List.mem_of_getElem? hri)
  have hone : ∀ u ∈ vx.cells.toList, u.oneCell' = true := fun u hu => by
    obtain ⟨j, hj⟩ := List.mem_iff_getElem?.1 hu
    have hlt : j < ys.length := by
      have := (List.getElem?_eq_some_iff.1 hj).1
      simp at this; omega
    exact (hx j ys[j] u (by simp [hlt]) hj).oneCell
  have hroom : (g id).off + (i * sz + off) + ys.length ≤ cells.size := by
    have : (i + 1) * sz ≤ (g id).cap * sz := Nat.mul_le_mul_right _ (by omega)
    have e : (i + 1) * sz = i * sz + sz := by rw [Nat.add_mul, Nat.one_mul]
    omega
  rw [run_storeAt h hs]
  have hvl : vx.cells.toList.length = ys.length := by simp; omega
  have hrun := run_storeCells_at P (g id).blk ((g id).off + (i * sz + off)) tt vx.cells.toList 0 cells w h1 (by rw [hvl]; omega) hone
  simp only [Nat.add_zero] at hrun
  refine ⟨_, hrun, ?_⟩
  have ho : owns g mem id = true := by simp [owns, hm, hn]
  refine m.put ho (by rw [hm]; simp [Goes]) (by simp [owns, hn]) (setRow_frame _ _ _) (fun k hk => setRow_other _ _ _ hk) (fun mem' hmem' hgo => ?_)
  have hrep : ∀ u y, RepC F w u y → RepC F (w.setRow (g id).blk (cells.toList.take ((g id).off + (i * sz + off)) ++ vx.cells.toList ++ cells.toList.drop ((g id).off + (i * sz + off) + vx.cells.toList.length)).toArray) u y := fun u y hu =>
    hu.mono (fun _ h => h) (fun b hb => setRow_other _ _ _ (fun e => (m.own id ho).1 (m.sub _ (e ▸ hb))))
  have hsl : (splice (rows.getD i []) off ys).length = sz := by rw [splice_length (by omega)]; exact hrl
  refine ⟨fun r hr => ?_, .inr ⟨hn, by simpa using hcap, _, tt, setRow_heap w _ _ _ tt _ h1, ?_, fun k j r x hr hxx => ?_⟩⟩
  · rcases List.mem_or_eq_of_mem_set hr with hr | rfl
    · exact h0 r hr
    · exact hsl
  · have : (splice cells.toList ((g id).off + (i * sz + off)) vx.cells.toList).length = cells.toList.length := splice_length (by rw [hvl]; simpa using hroom)
    unfold splice at this
    simp only [List.size_toArray, this]
    simpa using h2
  · have e := splice_get (cs := cells.toList) (xs := vx.cells.toList) (off := (g id).off + (i * sz + off)) (i := (g id).off + (k * sz + j)) (by rw [hvl]; simpa using hroom)
    simp only [List.getElem?_toArray]
    unfold splice at e
    rw [e]
    by_cases hk : k = i
    · subst hk
      rw [List.getElem?_set_self hi] at hr
      cases hr
      rw [splice_get (by omega)] at hxx
      by_cases hj : off ≤ j ∧ j < off + ys.length
      · rw [if_pos hj] at hxx
        have hin : (g id).off + (k * sz + off) ≤ (g id).off + (k * sz + j) ∧ (g id).off + (k * sz + j) < (g id).off + (k * sz + off) + ys.length := by omega
        rw [if_pos (by omega)]
        have he : (g id).off + (k * sz + j) - ((g id).off + (k * sz + off)) = j - off := by omega
        rw [he]
        have hlt : j - off < vx.cells.toList.length := by omega
        exact ⟨_, List.getElem?_eq_getElem hlt, hrep _ _ (hx _ x _ hxx (List.getElem?_eq_getElem hlt))⟩
      · rw [if_neg hj] at hxx
        have hin : ¬ ((g id).off + (k * sz + off) ≤ (g id).off + (k * sz + j) ∧ (g id).off + (k * sz + j) < (g id).off + (k * sz + off) + ys.length) := by omega
        rw [if_neg (by omega)]
        obtain ⟨v, hv, h6⟩ := h3 k j _ x hri hxx
        exact ⟨v, by rw [Array.getElem?_toList]; exact hv, hrep _ _ h6⟩
    · rw [List.getElem?_set_ne (Ne.symm hk)] at hr
      have hjl : j < sz := by
        have := h0 r (List.mem_of_getElem? hr)
        have := (List.getElem?_eq_some_iff.1 hxx).1
        omega
      have hin : ¬ ((g id).off + (i * sz + off) ≤ (g id).off + (k * sz + j) ∧ (g id).off + (k * sz + j) < (g id).off + (i * sz + off) + ys.length) := by
        rcases Nat.lt_or_gt_of_ne hk with hlt | hgt
        · have : (k + 1) * sz ≤ i * sz := Nat.mul_le_mul_right _ hlt
          have e : (k + 1) * sz = k * sz + sz := by rw [Nat.add_mul, Nat.one_mul]
          omega
        · have : (i + 1) * sz ≤ k * sz := Nat.mul_le_mul_right _ hgt
          have e : (i + 1) * sz = i * sz + sz := by rw [Nat.add_mul, Nat.one_mul]
          omega
      rw [if_neg (by omega)]
      obtain ⟨v, hv, h6⟩ := h3 k j r x hr hxx
      exact ⟨v, by rw [Array.getElem?_toList]; exact hv, hrep _ _ h6⟩

/-- The same where one cell of the array holds an own slice. -/
theorem store_elemx {ov : List ((Nat × Nat) × P1)} {t : TypeId} {id i off sz : Nat} {rows : List (List C)} {ys : List C} {va vx : Value} (m : MR g F X w mem) (h : (ti P t).ok = true)
    (hm : mem id = .arx sz rows ov) (hne : ovF ov i off ys.length) (hs : vx.cells.size = (ti P t).size) (hyl : ys.length = (ti P t).size) (hfit : off + ys.length ≤ sz)
    (ha : V1 g F w mem va (.ep id i off)) (hx : ∀ (j : Nat) (y : C) (u : Value), ys[j]? = some y → vx.cells.toList[j]? = some u → RepC F w u y) :
    ∃ w', (Instr.storeAt t va vx).run P w = .ok () w' ∧ MR g F X w' (upd mem id (.arx sz (rows.set i (splice (rows.getD i []) off ys)) ov)) ∧
      Ext g F X w mem g F X w' (upd mem id (.arx sz (rows.set i (splice (rows.getD i []) off ys)) ov)) := by
  simp only [V1, hm] at ha
  obtain ⟨rfl, hi⟩ := ha
  have hb := m.blk id
  rw [hm] at hb
  obtain ⟨h0, hn, hcap, cells, tt, h1, h2, h3⟩ := hb
  have hri : rows[i]? = some (rows.getD i []) := by simp [List.getD, hi]
  have hrl : (rows.getD i []).length = sz := h0 _ (List.mem_of_getElem? hri)
  have hone : ∀ u ∈ vx.cells.toList, u.oneCell' = true := fun u hu => by
    obtain ⟨j, hj⟩ := List.mem_iff_getElem?.1 hu
    have hlt : j < ys.length := by
      have := (List.getElem?_eq_some_iff.1 hj).1
      simp at this; omega
    exact (hx j ys[j] u (by simp [hlt]) hj).oneCell
  have hroom : (g id).off + (i * sz + off) + ys.length ≤ cells.size := by
    have : (i + 1) * sz ≤ (g id).cap * sz := Nat.mul_le_mul_right _ (by omega)
    have e : (i + 1) * sz = i * sz + sz := by rw [Nat.add_mul, Nat.one_mul]
    omega
  rw [run_storeAt h hs]
  have hvl : vx.cells.toList.length = ys.length := by simp; omega
  have hrun := run_storeCells_at P (g id).blk ((g id).off + (i * sz + off)) tt vx.cells.toList 0 cells w h1 (by rw [hvl]; omega) hone
  simp only [Nat.add_zero] at hrun
  refine ⟨_, hrun, ?_⟩
  have ho : owns g mem id = true := by simp [owns, hm]
  refine m.put ho (by rw [hm]; simp [Goes]) (by simp [owns]) (setRow_frame _ _ _) (fun k hk => setRow_other _ _ _ hk) (fun mem' hmem' hgo => ?_)
  have hrep : ∀ u y, RepC F w u y → RepC F (w.setRow (g id).blk (cells.toList.take ((g id).off + (i * sz + off)) ++ vx.cells.toList ++ cells.toList.drop ((g id).off + (i * sz + off) + vx.cells.toList.length)).toArray) u y := fun u y hu =>
    hu.mono (fun _ h => h) (fun b hb => setRow_other _ _ _ (fun e => (m.own id ho).1 (m.sub _ (e ▸ hb))))
  have hrep2 : ∀ k j u y, ovR g F w mem ov k j u y → ovR g F (w.setRow (g id).blk (cells.toList.take ((g id).off + (i * sz + off)) ++ vx.cells.toList ++ cells.toList.drop ((g id).off + (i * sz + off) + vx.cells.toList.length)).toArray) mem' ov k j u y := fun k j u y hu =>
    hu.goes (fun _ h => h) (fun b hb => setRow_other _ _ _ (fun e => (m.own id ho).1 (m.sub _ (e ▸ hb)))) hgo
  have hsl : (splice (rows.getD i []) off ys).length = sz := by rw [splice_length (by omega)]; exact hrl
  refine ⟨fun r hr => ?_, hn, by simpa using hcap, _, tt, setRow_heap w _ _ _ tt _ h1, ?_, fun k j r x hr hxx => ?_⟩
  · rcases List.mem_or_eq_of_mem_set hr with hr | rfl
    · exact h0 r hr
    · exact hsl
  · have : (splice cells.toList ((g id).off + (i * sz + off)) vx.cells.toList).length = cells.toList.length := splice_length (by rw [hvl]; simpa using hroom)
    unfold splice at this
    simp only [List.size_toArray, this]
    simpa using h2
  · have e := splice_get (cs := cells.toList) (xs := vx.cells.toList) (off := (g id).off + (i * sz + off)) (i := (g id).off + (k * sz + j)) (by rw [hvl]; simpa using hroom)
    simp only [List.getElem?_toArray]
    unfold splice at e
    rw [e]
    by_cases hk : k = i
    · subst hk
      rw [List.getElem?_set_self hi] at hr
      cases hr
      rw [splice_get (by omega)] at hxx
      by_cases hj : off ≤ j ∧ j < off + ys.length
      · rw [if_pos hj] at hxx
        have hin : (g id).off + (k * sz + off) ≤ (g id).off + (k * sz + j) ∧ (g id).off + (k * sz + j) < (g id).off + (k * sz + off) + ys.length := by omega
        rw [if_pos (by omega)]
        have he : (g id).off + (k * sz + j) - ((g id).off + (k * sz + off)) = j - off := by omega
        rw [he]
        have hlt : j - off < vx.cells.toList.length := by omega
        exact ⟨_, List.getElem?_eq_getElem hlt, by unfold ovR; rw [ovF_get hne hj.1 hj.2]; exact hrep _ _ (hx _ x _ hxx (List.getElem?_eq_getElem hlt))⟩
      · rw [if_neg hj] at hxx
        have hin : ¬ ((g id).off + (k * sz + off) ≤ (g id).off + (k * sz + j) ∧ (g id).off + (k * sz + j) < (g id).off + (k * sz + off) + ys.length) := by omega
        rw [if_neg (by omega)]
        obtain ⟨v, hv, h6⟩ := h3 k j _ x hri hxx
        exact ⟨v, by rw [Array.getElem?_toList]; exact hv, hrep2 _ _ _ _ h6⟩
    · rw [List.getElem?_set_ne (Ne.symm hk)] at hr
      have hjl : j < sz := by
        have := h0 r (List.mem_of_getElem? hr)
        have := (List.getElem?_eq_some_iff.1 hxx).1
        omega
      have hin : ¬ ((g id).off + (i * sz + off) ≤ (g id).off + (k * sz + j) ∧ (g id).off + (k * sz + j) < (g id).off + (i * sz + off) + ys.length) := by
        rcases Nat.lt_or_gt_of_ne hk with hlt | hgt
        · have : (k + 1) * sz ≤ i * sz := Nat.mul_le_mul_right _ hlt
          have e : (k + 1) * sz = k * sz + sz := by rw [Nat.add_mul, Nat.one_mul]
          omega
        · have : (i + 1) * sz ≤ k * sz := Nat.mul_le_mul_right _ hgt
          have e : (i + 1) * sz = i * sz + sz := by rw [Nat.add_mul, Nat.one_mul]
          omega
      rw [if_neg (by omega)]
      obtain ⟨v, hv, h6⟩ := h3 k j r x hr hxx
      exact ⟨v, by rw [Array.getElem?_toList]; exact hv, hrep2 _ _ _ _ h6⟩

/-- A store into the cell that holds an own slice. -/
theorem store_elem1 {ov : List ((Nat × Nat) × P1)} {j0 : Nat} {q : P1} {t : TypeId} {id i sz : Nat} {rows : List (List C)} {va vx : Value} (m : MR g F X w mem) (h : (ti P t).ok = true)
    (hm : mem id = .arx sz rows ov) (hov : (ovG ov i j0).isSome = true) (hs : (ti P t).size = 1) (hfit : j0 < sz) (hl : live1 mem q = true)
    (ha : V1 g F w mem va (.ep id i j0)) (hx : V1 g F w mem vx q) :
    ∃ w', (Instr.storeAt t va vx).run P w = .ok () w' ∧ MR g F X w' (upd mem id (.arx sz rows (ovS ov i j0 q))) ∧
      Ext g F X w mem g F X w' (upd mem id (.arx sz rows (ovS ov i j0 q))) := by
  simp only [V1, hm] at ha
  obtain ⟨rfl, hi⟩ := ha
  have hb := m.blk id
  rw [hm] at hb
  obtain ⟨h0, hn, hcap, cells, tt, h1, h2, h3⟩ := hb
  have ho1 := hx.oneCell hl
  have hvc : vx.cells = #[vx] := by cases vx <;> simp [Value.oneCell'] at ho1 <;> rfl
  have hri : rows[i]? = some (rows.getD i []) := by simp [List.getD, hi]
  have hrl : (rows.getD i []).length = sz := h0 _ (List.mem_of_getElem? hri)
  have hone : ∀ u ∈ vx.cells.toList, u.oneCell' = true := fun u hu => by rw [hvc] at hu; simp at hu; subst hu; exact ho1
  have hroom : (g id).off + (i * sz + j0) + 1 ≤ cells.size := by
    have : (i + 1) * sz ≤ (g id).cap * sz := Nat.mul_le_mul_right _ (by omega)
    have e : (i + 1) * sz = i * sz + sz := by rw [Nat.add_mul, Nat.one_mul]
    omega
  rw [run_storeAt h (by rw [hvc, hs]; rfl)]
  have hvl : vx.cells.toList.length = 1 := by rw [hvc]; rfl
  have hrun := run_storeCells_at P (g id).blk ((g id).off + (i * sz + j0)) tt vx.cells.toList 0 cells w h1 (by rw [hvl]; omega) hone
  simp only [Nat.add_zero] at hrun
  refine ⟨_, hrun, ?_⟩
  have ho : owns g mem id = true := by simp [owns, hm]
  refine m.put ho (by rw [hm]; simp [Goes]) (by simp [owns]) (setRow_frame _ _ _) (fun k hk => setRow_other _ _ _ hk) (fun mem' hmem' hgo => ?_)
  have hF : ∀ b, F b → (w.setRow (g id).blk (cells.toList.take ((g id).off + (i * sz + j0)) ++ vx.cells.toList ++ cells.toList.drop ((g id).off + (i * sz + j0) + vx.cells.toList.length)).toArray).heap[b]? = w.heap[b]? := fun b hb =>
    setRow_other _ _ _ (fun e => (m.own id ho).1 (m.sub _ (e ▸ hb)))
  refine ⟨h0, hn, hcap, _, tt, setRow_heap w _ _ _ tt _ h1, ?_, fun k j r x hr hxx => ?_⟩
  · have : (splice cells.toList ((g id).off + (i * sz + j0)) vx.cells.toList).length = cells.toList.length := splice_length (by rw [hvl]; simpa using hroom)
    unfold splice at this
    simp only [List.size_toArray, this]
    simpa using h2
  · have e := splice_get (cs := cells.toList) (xs := vx.cells.toList) (off := (g id).off + (i * sz + j0)) (i := (g id).off + (k * sz + j)) (by rw [hvl]; simpa using hroom)
    simp only [List.getElem?_toArray]
    unfold splice at e
    rw [e]
    have hjl : j < sz := by
      have := h0 r (List.mem_of_getElem? hr)
      have := (List.getElem?_eq_some_iff.1 hxx).1
      omega
    by_cases he : k = i ∧ j = j0
    · obtain ⟨rfl, rfl⟩ := he
      rw [if_pos (by omega)]
      refine ⟨vx, by rw [hvc]; simp, ?_⟩
      unfold ovR
      rw [ovS_get hov, if_pos ⟨rfl, rfl⟩]
      exact hx.goes (fun _ h => h) hF hgo
    · have hin : ¬ ((g id).off + (i * sz + j0) ≤ (g id).off + (k * sz + j) ∧ (g id).off + (k * sz + j) < (g id).off + (i * sz + j0) + vx.cells.toList.length) := by
        rw [hvl]
        by_cases hk : k = i
        · subst hk
          have : j ≠ j0 := fun e => he ⟨rfl, e⟩
          omega
        · rcases Nat.lt_or_gt_of_ne hk with hlt | hgt
          · have : (k + 1) * sz ≤ i * sz := Nat.mul_le_mul_right _ hlt
            have e : (k + 1) * sz = k * sz + sz := by rw [Nat.add_mul, Nat.one_mul]
            omega
          · have : (i + 1) * sz ≤ k * sz := Nat.mul_le_mul_right _ hgt
            have e : (i + 1) * sz = i * sz + sz := by rw [Nat.add_mul, Nat.one_mul]
            omega
      rw [if_neg hin]
      obtain ⟨v, hv, h6⟩ := h3 k j r x hr hxx
      refine ⟨v, by rw [Array.getElem?_toList]; exact hv, ?_⟩
      have h7 := h6.goes (fun _ h => h) hF hgo
      unfold ovR at h7 ⊢
      rw [ovS_get hov, if_neg he]
      exact h7

end Go.Proofs.K
/- New memory: boxes, arrays, append. -/
namespace Go.Proofs.K
open Go Go.RowKit

variable {P : Program} {g : Gs} {F X : Nat → Prop} {w : World} {mem : Mem}

def okCells (mem : Mem) : PV → Bool
  | .one p => live1 mem p
  | .agg _ => true
  | .tup _ => false

theorem VR.cells2 {v : Value} {p : PV} (h : VR g F w mem v p) (hl : okCells mem p = true) :
    v.cells.size = p.cells.length ∧ ∀ (i : Nat) (q : P1) (u : Value), p.cells[i]? = some q → v.cells.toList[i]? = some u → V1 g F w mem u q := by
  cases p with
  | one p =>
    have hl' : live1 mem p = true := hl
    have := VR.cells_rel (v := v) (g := g) (F := F) (w := w) (mem := mem) (p := .one p) h (by simp [PV.cells, hl']) (by simp [PV.cells])
    exact ⟨this.1, this.2.2⟩
  | agg xs =>
    obtain ⟨vs, rfl, hs, hc⟩ := h
    refine ⟨hs, fun i q u hq hu => ?_⟩
    simp only [Value.cells, Array.getElem?_toList] at hu
    obtain ⟨u', hu', h1⟩ := hc i q hq
    rw [hu] at hu'
    cases hu'
    exact h1
  | tup xs => cases hl

theorem new_box {id : Nat} {cells : Array Value} {t : TypeId} {cs : List P1} (m : MR g F X w mem) (hid : mem id = .un)
    (hs : cells.size = cs.length) (hc : ∀ (i : Nat) (q : P1) (u : Value), cs[i]? = some q → cells[i]? = some u → V1 g F w mem u q) :
    ∃ g', MR g' F X (w.alloc (.cells cells t)) (upd mem id (.box cs)) ∧ Ext g F X w mem g' F X (w.alloc (.cells cells t)) (upd mem id (.box cs)) ∧
      VR g' F (w.alloc (.cells cells t)) (upd mem id (.box cs)) (.pointer (some ⟨w.heap.size, 0, none⟩)) (.one (.ptr id 0)) := by
  have hgo : ∀ i, Goes g (upd g id ⟨w.heap.size, 0, 0, false⟩) (mem i) (upd mem id (.box cs) i) i := fun i => by
    by_cases h : i = id
    · subst h; rw [hid]; trivial
    · rw [upd_ne _ _ h]; cases mem i <;> simp [Goes, upd_ne _ _ h]
  obtain ⟨m', e⟩ := m.add (id := id) (o := .cells cells t) (b := .box cs) (q := ⟨w.heap.size, 0, 0, false⟩) hid rfl (fun mem' hm' => by
    refine ⟨cells, t, by rw [upd_same]; exact heap_alloc_new _ _, hs, fun i p hp => ?_⟩
    have hlt : i < cells.size := by rw [hs]; exact (List.getElem?_eq_some_iff.1 hp).1
    refine ⟨cells[i], by simp [hlt], ?_⟩
    subst hm'
    exact (hc i p _ hp (by simp [hlt])).goes (fun _ h => h) (fun b hb => heap_alloc_lt _ _ (m.lt b (m.sub b hb))) hgo)
  exact ⟨_, m', e, by simp [VR, V0, V1]⟩

theorem flat_get {α : Type} (sz : Nat) : ∀ (L : List (List α)), (∀ r ∈ L, r.length = sz) → ∀ (i j : Nat) (r : List α), L[i]? = some r → j < sz → L.flatten[i * sz + j]? = r[j]?
  | [], _, i, j, r, h, _ => by simp at h
  | x :: L, hl, i, j, r, h, hj => by
    have hx := hl x (by simp)
    cases i with
    | zero =>
      simp at h; subst h
      rw [List.flatten_cons, List.getElem?_append, if_pos (by omega)]
      simp
    | succ i =>
      have e : (i + 1) * sz = i * sz + sz := by rw [Nat.add_mul, Nat.one_mul]
      rw [List.flatten_cons, List.getElem?_append, if_neg (by omega)]
      have := flat_get sz L (fun r hr => hl r (by simp [hr])) i j r (by simpa using h) hj
      rw [← this]
      congr 1; omega

theorem flat_length {α : Type} (sz : Nat) : ∀ (L : List (List α)), (∀ r ∈ L, r.length = sz) → L.flatten.length = L.length * sz
  | [], _ => by simp
  | x :: L, hl => by
    have := flat_length sz L (fun r hr => hl r (by simp [hr]))
    have hx := hl x (by simp)
    rw [List.flatten_cons, List.length_append, this, hx, List.length_cons, Nat.add_mul, Nat.one_mul, Nat.add_comm]

/-- Rows of values that stand for rows of data. -/
structure RowsR (F : Nat → Prop) (w : World) (sz : Nat) (vr : List (List Value)) (rows : List (List C)) : Prop where
  len : vr.length = rows.length
  vsz : ∀ r ∈ vr, r.length = sz
  rsz : ∀ r ∈ rows, r.length = sz
  rep : ∀ (i j : Nat) (vrow : List Value) (r : List C) (v : Value) (x : C), vr[i]? = some vrow → rows[i]? = some r → vrow[j]? = some v → r[j]? = some x → RepC F w v x

theorem RowsR.mono {F F' : Nat → Prop} {w w' : World} {sz : Nat} {vr : List (List Value)} {rows : List (List C)} (h : RowsR F w sz vr rows)
    (hF : ∀ b, F b → F' b) (hw : ∀ b, F b → w'.heap[b]? = w.heap[b]?) : RowsR F' w' sz vr rows :=
  ⟨h.len, h.vsz, h.rsz, fun i j vrow r v x h1 h2 h3 h4 => (h.rep i j vrow r v x h1 h2 h3 h4).mono hF hw⟩

theorem RowsR.append {sz : Nat} {vr vr' : List (List Value)} {rows rows' : List (List C)} (h : RowsR F w sz vr rows) (k : RowsR F w sz vr' rows') :
    RowsR F w sz (vr ++ vr') (rows ++ rows') := by
  refine ⟨by simp [h.len, k.len], fun r hr => ?_, fun r hr => ?_, fun i j vrow r v x h1 h2 h3 h4 => ?_⟩
  · rcases List.mem_append.1 hr with hr | hr
    · exact h.vsz r hr
    · exact k.vsz r hr
  · rcases List.mem_append.1 hr with hr | hr
    · exact h.rsz r hr
    · exact k.rsz r hr
  · rw [List.getElem?_append] at h1 h2
    have := h.len
    by_cases hi : i < vr.length
    · rw [if_pos hi] at h1
      rw [if_pos (by omega)] at h2
      exact h.rep i j vrow r v x h1 h2 h3 h4
    · rw [if_neg hi] at h1
      rw [if_neg (by omega)] at h2
      rw [← this] at h2
      exact k.rep _ j vrow r v x h1 h2 h3 h4

/-- The cells of an own array, out of rows. -/
theorem rows_arr {sz o : Nat} {cells : Array Value} {vr : List (List Value)} {rows : List (List C)} (h : RowsR F w sz vr rows) (pre post : List Value)
    (hc : cells.toList = pre ++ (vr.flatten ++ post)) (ho : pre.length = o) :
    ∀ (i j : Nat) (r : List C) (x : C), rows[i]? = some r → r[j]? = some x → ∃ v, cells[o + (i * sz + j)]? = some v ∧ RepC F w v x := by
  intro i j r x hr hx
  have hi : i < vr.length := by rw [h.len]; exact (List.getElem?_eq_some_iff.1 hr).1
  have hj : j < sz := by rw [← h.rsz r (List.mem_of_getElem? hr)]; exact (List.getElem?_eq_some_iff.1 hx).1
  have hvi : vr[i]? = some vr[i] := by simp [hi]
  have hvl : (vr[i]).length = sz := h.vsz _ (by simp)
  have hfl := flat_get sz vr h.vsz i j vr[i] hvi hj
  have hvj : (vr[i])[j]? = some (vr[i])[j] := by simp [hvl, hj]
  refine ⟨(vr[i])[j], ?_, h.rep i j _ r _ x hvi hr hvj hx⟩
  rw [← Array.getElem?_toList, hc, List.getElem?_append, if_neg (by omega), List.getElem?_append]
  have hlen := flat_length sz vr h.vsz
  have : i * sz + j < vr.flatten.length := by
    rw [hlen]
    have : (i + 1) * sz ≤ vr.length * sz := Nat.mul_le_mul_right _ hi
    have e : (i + 1) * sz = i * sz + sz := by rw [Nat.add_mul, Nat.one_mul]
    omega
  have e : o + (i * sz + j) - pre.length = i * sz + j := by omega
  rw [e, if_pos this, hfl, hvj]

theorem new_arr {id sz cap : Nat} {cells : Array Value} {t : TypeId} {vr : List (List Value)} {rows : List (List C)} {post : List Value} (m : MR g F X w mem) (hid : mem id = .un)
    (hr : RowsR F w sz vr rows) (hc : cells.toList = vr.flatten ++ post) (hcap : rows.length ≤ cap) (hsz : cap * sz ≤ cells.size) :
    ∃ g', MR g' F X (w.alloc (.cells cells t)) (upd mem id (.arr sz rows)) ∧ Ext g F X w mem g' F X (w.alloc (.cells cells t)) (upd mem id (.arr sz rows)) ∧
      VR g' F (w.alloc (.cells cells t)) (upd mem id (.arr sz rows)) (.slice (some ⟨w.heap.size, 0, none⟩) rows.length cap) (.one (.ms id)) ∧ (g' id).nilb = false := by
  obtain ⟨m', e⟩ := m.add (id := id) (o := .cells cells t) (b := .arr sz rows) (q := ⟨w.heap.size, 0, cap, false⟩) hid rfl (fun mem' hm' => by
    refine ⟨hr.rsz, .inr ⟨by rw [upd_same], by rw [upd_same]; exact hcap, cells, t, by rw [upd_same]; exact heap_alloc_new _ _, by rw [upd_same]; simpa using hsz, ?_⟩⟩
    rw [upd_same]
    have hr' : RowsR F (w.alloc (.cells cells t)) sz vr rows := hr.mono (fun _ h => h) (fun b hb => heap_alloc_lt _ _ (m.lt b (m.sub b hb)))
    exact rows_arr hr' [] post (by simpa using hc) rfl)
  exact ⟨_, m', e, by simp [VR, V0, V1, hdr], by rw [upd_same]⟩

/-- A slice value that can be read as rows. -/
structure Src (F : Nat → Prop) (w : World) (v : Value) (rows : List (List C)) : Prop where
  is : (rows = [] ∧ ∃ a cap, v = .slice a 0 cap) ∨
    ∃ b o cap sz vr, v = .slice (some ⟨b, o, none⟩) rows.length cap ∧ RowsR F w sz vr rows ∧ ∀ (j : Nat) (u : Value), vr.flatten[j]? = some u → w.cell? ⟨b, o + j, none⟩ = some u

theorem RepC.src {v : Value} {rows : List (List C)} (h : RepC F w v (.lst rows)) : Src F w v rows := by
  cases h with
  | nil a cap => exact ⟨.inl ⟨rfl, a, cap, rfl⟩⟩
  | lst b o cap rows sz vs hF hcap hsz hc hv =>
    refine ⟨.inr ⟨b, o, cap, sz, (List.range rows.length).map fun i => (List.range sz).map fun j => vs i j, rfl, ⟨by simp, fun r hr => ?_, hsz, fun i j vrow r v x h1 h2 h3 h4 => ?_⟩, fun j u hu => ?_⟩⟩
    · obtain ⟨i, _, rfl⟩ := List.mem_map.1 hr; simp
    · have hi : i < rows.length := (List.getElem?_eq_some_iff.1 h2).1
      have hj : j < sz := by rw [← hsz r (List.mem_of_getElem? h2)]; exact (List.getElem?_eq_some_iff.1 h4).1
      simp [hi] at h1
      subst h1
      simp [hj] at h3
      subst h3
      exact hv i j r x h2 h4
    · have hall : ∀ r ∈ ((List.range rows.length).map fun i => (List.range sz).map fun j => vs i j), r.length = sz := fun r hr => by
        obtain ⟨i, _, rfl⟩ := List.mem_map.1 hr; simp
      have hlen := flat_length sz _ hall
      have hlt := (List.getElem?_eq_some_iff.1 hu).1
      rw [hlen] at hlt
      simp only [List.length_map, List.length_range] at hlt
      have hsz0 : 0 < sz := by
        rcases Nat.eq_zero_or_pos sz with h | h
        · subst h; simp at hlt
        · exact h
      have hdm : j / sz * sz + j % sz = j := by rw [Nat.mul_comm]; exact Nat.div_add_mod j sz
      have hq : j / sz < rows.length := (Nat.div_lt_iff_lt_mul hsz0).2 hlt
      have hm : j % sz < sz := Nat.mod_lt _ hsz0
      have hfg := flat_get sz _ hall (j / sz) (j % sz) _ (by rw [List.getElem?_map, List.getElem?_range hq]; rfl) hm
      rw [hdm] at hfg
      rw [hfg] at hu
      simp [hm] at hu
      subst hu
      have hrq : rows[j / sz]? = some rows[j / sz] := by simp [hq]
      have hrl := hsz _ (List.mem_of_getElem? hrq)
      have := hc (j / sz) (j % sz) rows[j / sz] (rows[j / sz])[j % sz] hrq (by simp [hrl, hm])
      rw [hdm] at this
      exact this

theorem arr_src {id sz : Nat} {rows : List (List C)} (m : MR g F X w mem) (hid : mem id = .arr sz rows) : Src F w (hdr (g id) rows.length) rows := by
  have hb := m.blk id
  rw [hid] at hb
  obtain ⟨hsz, hb⟩ := hb
  have hr := (arr_rep m hid).src
  rcases hb with ⟨h1, h2⟩ | ⟨h1, h2, cells, t, h3, h4, h5⟩
  · subst h2
    refine ⟨.inl ⟨rfl, none, 0, by simp [hdr, h1]⟩⟩
  · rcases hr.is with ⟨h, a, cap, ha⟩ | ⟨b, o, cap, sz', vr, hv, hrr, hcl⟩
    · exact ⟨.inl ⟨h, a, cap, ha⟩⟩
    · simp only [hdr, h1, Bool.false_eq_true, if_false] at hv ⊢
      injection hv with hv1 hv2 hv3
      injection hv1 with hv1
      injection hv1 with hv4 hv5 hv6
      refine ⟨.inr ⟨b, o, cap, sz', vr, by rw [hv4, hv5, hv3], ⟨hrr.len, hrr.vsz, hrr.rsz, fun i j vrow r v x k1 k2 k3 k4 => ?_⟩, hcl⟩⟩
      have hlt : i < rows.length := (List.getElem?_eq_some_iff.1 k2).1
      have hszz : sz' = sz := by rw [← hrr.rsz r (List.mem_of_getElem? k2)]; exact hsz r (List.mem_of_getElem? k2)
      subst hszz
      have hj : j < sz' := by rw [← hrr.rsz r (List.mem_of_getElem? k2)]; exact (List.getElem?_eq_some_iff.1 k4).1
      have hfg := flat_get sz' vr hrr.vsz i j vrow k1 hj
      have h6 := hcl (i * sz' + j) v (by rw [hfg]; exact k3)
      obtain ⟨u, hu, hrep⟩ := h5 i j r x k2 k4
      rw [← hv4, ← hv5, cell_of_block h3, hu] at h6
      cases h6
      exact hrep

end Go.Proofs.K
/- append, make, composite literals. -/
namespace Go.Proofs.K
open Go Go.RowKit

variable {P : Program} {g : Gs} {F X : Nat → Prop} {w : World} {mem : Mem}

theorem src_first {v : Value} {rows : List (List C)} (h : Src F w v rows) {sz : Nat} (hsz : ∀ r ∈ rows, r.length = sz) :
    ∃ vr, RowsR F w sz vr rows ∧ (∃ a cap, v = .slice a rows.length cap) ∧ ∀ w' : World, (∀ a : Addr, w'.cell? a = w.cell? a) →
      (Builtin.firstCells sz rows.length v).run P w' = .ok vr.flatten.toArray w' := by
  rcases h.is with ⟨rfl, a, cap, rfl⟩ | ⟨b, o, cap, sz', vr, rfl, hr, hc⟩
  · refine ⟨[], ⟨rfl, by simp, by simp, by simp⟩, ⟨a, cap, rfl⟩, fun w' hw => ?_⟩
    cases a with
    | none => simp [Builtin.firstCells]
    | some a =>
      simp only [Builtin.firstCells, List.length_nil, Nat.zero_mul]
      simp [loadCells, loadCellsFrom]
  · by_cases hne : rows = []
    · subst hne
      have : vr = [] := List.eq_nil_of_length_eq_zero (by rw [hr.len]; rfl)
      subst this
      refine ⟨[], ⟨rfl, by simp, by simp, by simp⟩, ⟨_, cap, rfl⟩, fun w' hw => ?_⟩
      simp [Builtin.firstCells, loadCells, loadCellsFrom]
    · have hszz : sz' = sz := by
        cases rows with
        | nil => exact absurd rfl hne
        | cons r rs => rw [← hr.rsz r (by simp), hsz r (by simp)]
      subst hszz
      refine ⟨vr, hr, ⟨_, cap, rfl⟩, fun w' hw => ?_⟩
      refine run_firstCells_some (P := P) w' sz' rows.length ⟨b, o, none⟩ rows.length cap vr.flatten ?_ (fun j u hu => ?_)
      · rw [flat_length sz' vr hr.vsz, hr.len]
      · rw [hw, addr_add]; exact hc j u hu

theorem flat_oneCell {sz : Nat} {vr : List (List Value)} {rows : List (List C)} (h : RowsR F w sz vr rows) : ∀ u ∈ vr.flatten, u.oneCell' = true := by
  intro u hu
  obtain ⟨row, hrow, hu⟩ := List.mem_flatten.1 hu
  obtain ⟨i, hi⟩ := List.mem_iff_getElem?.1 hrow
  obtain ⟨j, hj⟩ := List.mem_iff_getElem?.1 hu
  have hil : i < rows.length := by rw [← h.len]; exact (List.getElem?_eq_some_iff.1 hi).1
  have hri : rows[i]? = some rows[i] := by simp [hil]
  have hrl := h.rsz _ (List.mem_of_getElem? hri)
  have hjl : j < sz := by rw [← h.vsz row hrow]; exact (List.getElem?_eq_some_iff.1 hj).1
  have hj2 : j < (rows[i]).length := by omega
  exact (h.rep i j row rows[i] u (rows[i])[j] hi hri hj (by simp [hj2])).oneCell

/-- The type of a slice and its element. -/
structure SlT (P : Program) (t : TypeId) (sz by_ : Nat) : Prop where
  ex : ∃ e i z, P.underlying t = some (.slice e) ∧ P.info? e = some i ∧ i.zero = some z ∧ i.size = sz ∧ i.bytes = by_ ∧ z.cells.size = sz

def slt (P : Program) (t : TypeId) : Option (Nat × Nat) :=
  match (ti P t).k with
  | .slice e => if (ti P t).ok && (ti P e).ok then some ((ti P e).size, (ti P e).bytes) else none
  | _ => none

theorem tkOf_slice {d : TypeDesc} {e : TypeId} (h : tkOf P d = .slice e) : d = .slice e := by
  cases d <;> simp [tkOf] at h ⊢
  · exact h
  · rename_i fs
    cases hq : (fs.toList.mapM (fun f => (P.info? f.type).map fun i => (f.offset, i.size))) <;> simp [hq, tkS] at h

theorem slt_ok {t : TypeId} {sz by_ : Nat} (h : slt P t = some (sz, by_)) : SlT P t sz by_ := by
  unfold slt at h
  split at h
  · rename_i e hk
    split at h
    · rename_i hok
      simp only [Bool.and_eq_true] at hok
      obtain ⟨i, d, z, hi, hd, hz, hkk, hs, hb, hzz, hzs⟩ := ti_ok hok.1
      obtain ⟨i', d', z', hi', hd', hz', hkk', hs', hb', hzz', hzs'⟩ := ti_ok hok.2
      rw [hkk] at hk
      have := tkOf_slice hk
      subst this
      simp only [Option.some.injEq, Prod.mk.injEq] at h
      exact ⟨e, i', z', hd, hi', hz', by omega, by omega, by omega⟩
    · cases h
  · cases h

theorem append_grow_cap (n m : Nat) {by_ : Nat} {cap : Nat} (h : cap < n + m) (hb : (n + m) * by_ ≤ 140737488355328) :
    ¬ (281474976710656 < Builtin.nextslicecap (n + m) cap * by_) := by
  have := growslice_fits h hb
  omega

/-- append, with what is appended read as rows. -/
theorem append_run {t u : TypeId} {ty : TypeId} {id nid sz by_ : Nat} {rows rows2 : List (List C)} {v2 : Value} (m : MR g F X w mem)
    (ht : SlT P t sz by_) (hu : ∃ e, P.underlying u = some (.slice e)) (hid : mem id = .arr sz rows) (hnid : mem nid = .un) (h2 : Src F w v2 rows2)
    (hsz2 : ∀ r ∈ rows2, r.length = sz) (hb1 : rows.length + rows2.length ≤ 9223372036854775807) (hb2 : (rows.length + rows2.length) * by_ ≤ 140737488355328) :
    ∃ v w' g', (Builtin.append_ #[t, u] ty #[hdr (g id) rows.length, v2]).run P w = .ok v w' ∧
      MR g' F X w' (upd (upd mem id .dead) nid (.arr sz (rows ++ rows2))) ∧ Ext g F X w mem g' F X w' (upd (upd mem id .dead) nid (.arr sz (rows ++ rows2))) ∧
      VR g' F w' (upd (upd mem id .dead) nid (.arr sz (rows ++ rows2))) v (.one (.ms nid)) := by
  obtain ⟨e, i, z, hte, hie, hze, hsize, hbytes, hzsz⟩ := ht.ex
  obtain ⟨eu, hue⟩ := hu
  have hblk := m.blk id
  rw [hid] at hblk
  obtain ⟨hrsz, hblk⟩ := hblk
  have hne : id ≠ nid := fun e => by subst e; rw [hid] at hnid; cases hnid
  obtain ⟨vr2, hr2, ⟨a2, cap2, hv2⟩, hf2⟩ := src_first (P := P) h2 hsz2
  have hlen2 : Builtin.lenOf v2 = pure rows2.length := by rw [hv2]; rfl
  have h63 : ¬ (9223372036854775807 < ((rows.length : Int) + (rows2.length : Int))) := by omega
  by_cases hroom : rows.length + rows2.length ≤ (if (g id).nilb then 0 else (g id).cap)
  · -- there is room
    rcases hblk with ⟨hn, h1⟩ | ⟨hn, hcap, cells, tt, h3, h4, h5⟩
    · -- nil and nothing to add
      subst h1
      rw [hn] at hroom
      have : rows2 = [] := List.eq_nil_of_length_eq_zero (by simpa using hroom)
      subst this
      have : vr2 = [] := List.eq_nil_of_length_eq_zero (by rw [hr2.len]; rfl)
      subst this
      refine ⟨.slice none 0 0, w, upd g nid (g id), ?_, ?_⟩
      · have hf := hf2 w (fun _ => rfl)
        simp only [List.length_nil] at hf hlen2
        simp [hdr, hn, Builtin.append_, run_underlying hte, run_underlying hue, sizeOf, typeInfo, hie, hlen2, hsize, hf]
      · obtain ⟨m', e'⟩ := m.rename (id := id) (nid := nid) (b := .arr sz []) (q := g id) (w' := w) hid hnid rfl rfl ⟨_, _, rfl⟩ ⟨rfl, rfl, rfl, rfl⟩ (fun _ _ => rfl)
          (fun mem' => ⟨by simp, .inl ⟨by rw [upd_same]; exact hn, rfl⟩⟩)
        exact ⟨m', e', by simp [VR, V0, V1, hdr, hn]⟩
    · rw [hn] at hroom
      simp only [Bool.false_eq_true, if_false] at hroom
      have hst := run_storeCells_at P (g id).blk ((g id).off + rows.length * sz) tt vr2.flatten 0 cells w h3 (by
        rw [flat_length sz vr2 hr2.vsz, hr2.len]
        have : (rows.length + rows2.length) * sz ≤ (g id).cap * sz := Nat.mul_le_mul_right _ hroom
        rw [Nat.add_mul] at this
        omega) (flat_oneCell hr2)
      simp only [Nat.add_zero] at hst
      have hfl2 := flat_length sz vr2 hr2.vsz
      rw [hr2.len] at hfl2
      have hfit : (g id).off + rows.length * sz + vr2.flatten.length ≤ cells.toList.length := by
        have : (rows.length + rows2.length) * sz ≤ (g id).cap * sz := Nat.mul_le_mul_right _ hroom
        rw [Nat.add_mul] at this
        have hcl : cells.toList.length = cells.size := by simp
        rw [hfl2]; omega
      refine ⟨.slice (some ⟨(g id).blk, (g id).off, none⟩) (rows.length + rows2.length) (g id).cap, (w.setRow (g id).blk (cells.toList.take ((g id).off + rows.length * sz) ++ vr2.flatten ++ cells.toList.drop ((g id).off + rows.length * sz + vr2.flatten.length)).toArray), upd g nid (g id), ?_, ?_⟩
      · simp [hdr, hn, Builtin.append_, run_underlying hte, run_underlying hue, sizeOf, typeInfo, hie, hlen2, hsize, hf2 w (fun _ => rfl), hroom, addr_add, hst]
      · have ho : owns g mem id = true := by simp [owns, hid, hn]
        obtain ⟨m', e'⟩ := m.rename (id := id) (nid := nid) (b := .arr sz (rows ++ rows2)) (q := g id)
          (w' := w.setRow (g id).blk (cells.toList.take ((g id).off + rows.length * sz) ++ vr2.flatten ++ cells.toList.drop ((g id).off + rows.length * sz + vr2.flatten.length)).toArray)
          hid hnid rfl rfl ⟨_, _, rfl⟩ (setRow_frame _ _ _) (fun k hk => setRow_other _ _ _ (hk.resolve_left (by simp [hn])))
          (fun mem' => by
            have hmono : ∀ (v : Value) (x : C), RepC F w v x → RepC F (w.setRow (g id).blk (cells.toList.take ((g id).off + rows.length * sz) ++ vr2.flatten ++ cells.toList.drop ((g id).off + rows.length * sz + vr2.flatten.length)).toArray) v x := fun v x hv =>
              hv.mono (fun _ h => h) (fun b hb => setRow_other _ _ _ (fun e => (m.own id ho).1 (m.sub _ (e ▸ hb))))
            refine ⟨fun r hr => (List.mem_append.1 hr).elim (hrsz r) (hsz2 r), .inr ⟨by rw [upd_same]; exact hn, by rw [upd_same]; simpa using hroom, _, tt, by rw [upd_same]; exact setRow_heap w _ _ _ tt _ h3, ?_, ?_⟩⟩
            · have := splice_length hfit
              unfold splice at this
              rw [upd_same]
              simp only [List.size_toArray, this]
              simpa using h4
            · intro i j r x hr hx
              rw [upd_same]
              simp only [List.getElem?_toArray]
              have e := splice_get (i := (g id).off + (i * sz + j)) hfit
              unfold splice at e
              rw [e]
              have hjl : ∀ r ∈ rows ++ rows2, r.length = sz := fun r hr => (List.mem_append.1 hr).elim (hrsz r) (hsz2 r)
              have hj : j < sz := by rw [← hjl r (List.mem_of_getElem? hr)]; exact (List.getElem?_eq_some_iff.1 hx).1
              by_cases hi : i < rows.length
              · rw [List.getElem?_append, if_pos hi] at hr
                have : (i + 1) * sz ≤ rows.length * sz := Nat.mul_le_mul_right _ hi
                have e2 : (i + 1) * sz = i * sz + sz := by rw [Nat.add_mul, Nat.one_mul]
                rw [if_neg (by omega)]
                obtain ⟨v, hv, hrep⟩ := h5 i j r x hr hx
                exact ⟨v, by rw [Array.getElem?_toList]; exact hv, hmono _ _ hrep⟩
              · rw [List.getElem?_append, if_neg hi] at hr
                have hi2 : i - rows.length < rows2.length := (List.getElem?_eq_some_iff.1 hr).1
                have e2 : i * sz = (i - rows.length) * sz + rows.length * sz := by rw [← Nat.add_mul]; congr 1; omega
                have : (i - rows.length + 1) * sz ≤ rows2.length * sz := Nat.mul_le_mul_right _ hi2
                have e3 : (i - rows.length + 1) * sz = (i - rows.length) * sz + sz := by rw [Nat.add_mul, Nat.one_mul]
                rw [if_pos (by omega)]
                have hi3 : i - rows.length < vr2.length := by rw [hr2.len]; exact hi2
                have hvi : vr2[i - rows.length]? = some vr2[i - rows.length] := by simp [hi3]
                have hvl := hr2.vsz _ (List.mem_of_getElem? hvi)
                have hfg := flat_get sz vr2 hr2.vsz (i - rows.length) j _ hvi hj
                have e4 : (g id).off + (i * sz + j) - ((g id).off + rows.length * sz) = (i - rows.length) * sz + j := by omega
                rw [e4, hfg]
                have hvj : (vr2[i - rows.length])[j]? = some (vr2[i - rows.length])[j] := by simp [hvl, hj]
                exact ⟨_, hvj, hmono _ _ (hr2.rep _ j _ r _ x hvi hr hvj hx)⟩)
        exact ⟨m', e', by simp [VR, V0, V1, hdr, hn]⟩
  · -- a new array
    have hs0 := arr_src m hid
    obtain ⟨vr, hr, ⟨a1, cap1, hv1⟩, hf1⟩ := src_first (P := P) hs0 hrsz
    have hcap : ¬ (rows.length + rows2.length ≤ cap1) := by
      have : cap1 = if (g id).nilb then 0 else (g id).cap := by
        unfold hdr at hv1
        split at hv1
        · rename_i hn; injection hv1 with _ _ h; simp [hn, ← h]
        · rename_i hn; injection hv1 with _ _ h; simp [hn, ← h]
      rw [this]; exact hroom
    have h48 := append_grow_cap rows.length rows2.length (by_ := by_) (cap := cap1) (by omega) hb2
    have hq1 : rows.length + rows2.length ≤ grownCap w (rows.length + rows2.length) cap1 e := by
      simp [grownCap, Question.cut]
    have hzz := size_zeroCells z.cells (grownCap w (rows.length + rows2.length) cap1 e - (rows.length + rows2.length))
    -- the run
    have hrun : (Builtin.append_ #[t, u] ty #[hdr (g id) rows.length, v2]).run P w =
        .ok (.slice (some ⟨w.heap.size, 0, none⟩) (rows.length + rows2.length) (grownCap w (rows.length + rows2.length) cap1 e))
          (w.drew.alloc (.cells (vr.flatten.toArray ++ vr2.flatten.toArray ++ Builtin.zeroCells z.cells (grownCap w (rows.length + rows2.length) cap1 e - (rows.length + rows2.length))) e)) := by
      have hf1' := hf1 w.drew (fun _ => rfl)
      have hf2' := hf2 w.drew (fun _ => rfl)
      rw [hv1] at hf1' ⊢
      simp [Builtin.append_, run_underlying hte, run_underlying hue, sizeOf, typeInfo, zeroValue, hie, hze, hlen2, hsize, hbytes, hcap, h63, h48, Question.forced, hf1', hf2', newRow, grownCap]
      congr 2
      apply Array.ext'
      simp [List.append_assoc]
    have hq := RowsR.append (hr.mono (fun _ h => h) (fun _ _ => rfl)) (hr2.mono (fun _ h => h) (fun _ _ => rfl))
    obtain ⟨g', m', e', v', _⟩ := new_arr (t := e) (id := nid) (sz := sz) (cap := grownCap w (rows.length + rows2.length) cap1 e)
      (cells := vr.flatten.toArray ++ vr2.flatten.toArray ++ Builtin.zeroCells z.cells (grownCap w (rows.length + rows2.length) cap1 e - (rows.length + rows2.length)))
      (post := (Builtin.zeroCells z.cells (grownCap w (rows.length + rows2.length) cap1 e - (rows.length + rows2.length))).toList)
      (m.kill (id := id) (.inr trivial)).drew (by rw [upd_ne _ _ (Ne.symm hne)]; exact hnid) (RowsR.mono hq (w' := w.drew) (fun _ h => h) (fun _ _ => rfl)) (by simp) (by simpa using hq1) (by
        have h1 := flat_length sz vr hr.vsz
        have h2 := flat_length sz vr2 hr2.vsz
        rw [hr.len] at h1
        rw [hr2.len] at h2
        simp only [Array.size_append, List.size_toArray, h1, h2, hzz, hzsz]
        rw [← Nat.add_mul, ← Nat.add_mul]
        apply Nat.mul_le_mul_right
        omega)
    refine ⟨_, _, g', hrun, m', (Ext.kill.trans Ext.drew).trans e', ?_⟩
    have : (rows ++ rows2).length = rows.length + rows2.length := by simp
    rw [this] at v'
    exact v'

end Go.Proofs.K
/- Operations on values alone: arithmetic, comparisons, conversions, indexes, slices of strings and of data. -/
namespace Go.Proofs.K
open Go Go.RowKit

variable {P : Program} {g : Gs} {F X : Nat → Prop} {w : World} {mem : Mem}

@[reducible] def vi (n : Int) : PV := .one (.c (.int .i64 n))
@[reducible] def vb (b : Bool) : PV := .one (.c (.bool b))
@[reducible] def vs (s : ByteArray) : PV := .one (.c (.str s))
@[reducible] def vl (rows : List (List C)) : PV := .one (.c (.lst rows))

def sls (a b : ByteArray) : Bool := Op.bytesLess a.toList b.toList
/-- The byte at a place. -/
def bt (s : ByteArray) (i : Int) : Int := ((s.data.toList.getD i.toNat 0).toNat : Int)

theorem toList_beq (a b : ByteArray) : (a.toList == b.toList) = decide (a = b) := by
  rw [ByteArray.toList_eq, ByteArray.toList_eq]
  by_cases h : a = b
  · subst h; simp
  · have : ¬ (a.data.toList = b.data.toList) := fun e => h (ByteArray.ext (Array.toList_inj.mp e))
    rw [decide_eq_false h]
    exact beq_eq_false_iff_ne.2 this

def intOp (op : BinOp) (k : IntKind) (a b : Int) : Option (Prop × PV) :=
  match op with
  | .add => some (True, .one (.c (.int k (k.wrap (a + b)))))
  | .sub => some (True, .one (.c (.int k (k.wrap (a - b)))))
  | .mul => some (True, .one (.c (.int k (k.wrap (a * b)))))
  | .quo => some (b ≠ 0, .one (.c (.int k (k.wrap (a.tdiv b)))))
  | .rem => some (b ≠ 0, .one (.c (.int k (a.tmod b))))
  | .and => some (True, .one (.c (.int k (bits .and k a b))))
  | .or => some (True, .one (.c (.int k (bits .or k a b))))
  | .xor => some (True, .one (.c (.int k (bits .xor k a b))))
  | .eql => some (True, vb (a == b))
  | .neq => some (True, vb (a != b))
  | .lss => some (True, vb (decide (a < b)))
  | .leq => some (True, vb (decide (a ≤ b)))
  | .gtr => some (True, vb (decide (a > b)))
  | .geq => some (True, vb (decide (a ≥ b)))
  | _ => none

def strOp (op : BinOp) (a b : ByteArray) : Option (Prop × PV) :=
  match op with
  | .add => some (a.size + b.size ≤ 9223372036854775807, vs (a ++ b))
  | .eql => some (True, vb (decide (a = b)))
  | .neq => some (True, vb (!decide (a = b)))
  | .lss => some (True, vb (sls a b))
  | .leq => some (True, vb (sls a b || decide (a = b)))
  | .gtr => some (True, vb (!(sls a b || decide (a = b))))
  | .geq => some (True, vb (!sls a b))
  | _ => none

def binF (op : BinOp) (isBool isSl : Bool) : PV → PV → Option (Prop × PV)
  | .one (.c (.int k a)), .one (.c (.int k' b)) => if k = k' then intOp op k a b else none
  | .one (.c (.str a)), .one (.c (.str b)) => strOp op a b
  | .one (.c (.bool a)), .one (.c (.bool b)) => if isBool then (match op with
    | .eql => some (True, vb (a == b))
    | .neq => some (True, vb (a != b))
    | _ => none) else none
  | .one (.c (.lst rows)), .one .nil => if isSl then (match op with
    | .eql => some (True, if rows.isEmpty then .one .anyb else vb false)
    | _ => none) else none
  | .one .nil, .one .nil => if isSl then (match op with
    | .eql => some (True, vb true)
    | _ => none) else none
  | _, _ => none

def tkSl : TK → Bool
  | .slice _ => true
  | _ => false

def tkBool : TK → Bool
  | .bool => true
  | _ => false

theorem tkOf_bool {d : TypeDesc} (h : tkBool (tkOf P d) = true) : d = .bool := by
  cases d <;> simp [tkOf, tkBool] at h ⊢
  rename_i fs
  cases hq : (fs.toList.mapM (fun f => (P.info? f.type).map fun i => (f.offset, i.size))) <;> simp [hq, tkS] at h

theorem tkOf_sl {d : TypeDesc} (h : tkSl (tkOf P d) = true) : ∃ e, d = .slice e := by
  cases d <;> simp [tkOf, tkSl] at h
  case slice e => exact ⟨e, rfl⟩
  case struct fs =>
    cases hm : fs.toList.mapM (fun f => (P.info? f.type).map fun i => (f.offset, i.size)) <;> rw [hm] at h <;> simp [tkS, tkSl] at h

theorem ti_und {t : TypeId} (h : (ti P t).ok = true) : ∃ d, P.underlying t = some d ∧ (ti P t).k = tkOf P d := by
  obtain ⟨i, d, z, hi, hd, hz, hk, _⟩ := ti_ok h
  exact ⟨d, hd, hk⟩

theorem V1.inv_c {v : Value} {x : C} (h : VR g F w mem v (.one (.c x))) : RepC F w v x := h

theorem binF_ok {op : BinOp} {t : TypeId} {x y : Operand} {px py r : PV} {φ : Prop} {vx vy : Value}
    (h : binF op ((ti P t).ok && tkBool (ti P t).k) ((ti P t).ok && tkSl (ti P t).k) px py = some (φ, r)) (hφ : φ) (hx : VR g F w mem vx px) (hy : VR g F w mem vy py) :
    ∃ u, (do eqGuard op t x y vx vy; binOp op t vx vy : Sem Value).run P w = .ok u w ∧ VR g F w mem u r := by
  unfold binF at h
  split at h
  · rename_i k a k' b
    have hx' : RepC F w vx (.int k a) := hx
    have hy' : RepC F w vy (.int k' b) := hy
    cases hx'; cases hy'
    split at h
    · rename_i hk
      subst hk
      cases op <;> simp only [intOp, Option.some.injEq, Prod.mk.injEq, reduceCtorEq] at h <;> obtain ⟨rfl, rfl⟩ := h
      case quo => exact ⟨.int k (k.wrap (a.tdiv b)), by simp [eqGuard_at_int, binOp_quo, Op.intDiv, hφ], RepC.int _ _⟩
      case rem => exact ⟨.int k (a.tmod b), by simp [eqGuard_at_int, binOp_rem, Op.intDiv, hφ], RepC.int _ _⟩
      case add => exact ⟨.int k _, by simp only [eqGuard_at_int, binOp_add, Op.intArith, Sem.run_bind, Sem.run_pure, Result.andThen_ok], RepC.int _ _⟩
      case sub => exact ⟨.int k _, by simp only [eqGuard_at_int, binOp_sub, Op.intArith, Sem.run_bind, Sem.run_pure, Result.andThen_ok], RepC.int _ _⟩
      case mul => exact ⟨.int k _, by simp only [eqGuard_at_int, binOp_mul, Op.intArith, Sem.run_bind, Sem.run_pure, Result.andThen_ok], RepC.int _ _⟩
      case and => exact ⟨.int k _, by simp only [eqGuard_at_int, binOp_and, intBits_and, Sem.run_bind, Sem.run_pure, Result.andThen_ok], RepC.int _ _⟩
      case or => exact ⟨.int k _, by simp only [eqGuard_at_int, binOp_or, intBits_or, Sem.run_bind, Sem.run_pure, Result.andThen_ok], RepC.int _ _⟩
      case xor => exact ⟨.int k _, by simp only [eqGuard_at_int, binOp_xor, intBits_xor, Sem.run_bind, Sem.run_pure, Result.andThen_ok], RepC.int _ _⟩
      all_goals exact ⟨.bool _, by simp only [eqGuard_at_int, binOp_eql, binOp_neq, binOp_lss, binOp_leq, binOp_gtr, binOp_geq, Sem.run_bind, Sem.run_pure, Result.andThen_ok], RepC.bool _⟩
    · cases h
  · rename_i a b
    have hx' : RepC F w vx (.str a) := hx
    have hy' : RepC F w vy (.str b) := hy
    cases hx'; cases hy'
    cases op <;> simp only [strOp, Option.some.injEq, Prod.mk.injEq, reduceCtorEq] at h <;> obtain ⟨rfl, rfl⟩ := h
    case add => exact ⟨_, by simp only [eqGuard_at_string, binOp, Sem.run_bind, Sem.run_pure, Result.andThen_ok]; exact run_string_add_sum w a b hφ, RepC.str _⟩
    all_goals exact ⟨.bool _, by simp only [eqGuard_at_string, binOp, Sem.run_bind, Sem.run_pure, Result.andThen_ok, Op.stringOp, toList_beq, sls], RepC.bool _⟩
  · rename_i a b
    have hx' : RepC F w vx (.bool a) := hx
    have hy' : RepC F w vy (.bool b) := hy
    cases hx'; cases hy'
    split at h
    · rename_i hb
      simp only [Bool.and_eq_true] at hb
      obtain ⟨d, hd, hk⟩ := ti_und hb.1
      rw [hk] at hb
      have := tkOf_bool hb.2
      subst this
      cases op <;> simp only [Option.some.injEq, Prod.mk.injEq, reduceCtorEq] at h <;> obtain ⟨rfl, rfl⟩ := h
      · exact ⟨_, by simp only [eqGuard_at_bool, Sem.run_bind, Sem.run_pure, Result.andThen_ok]; exact run_eql_bool w t a b hd, RepC.bool _⟩
      · refine ⟨.bool _, by simp only [eqGuard_at_bool, Sem.run_bind, Sem.run_pure, Result.andThen_ok, binOp, run_equal_bool w t a b hd, bne], RepC.bool _⟩
    · cases h
  · rename_i rows
    have hx' : RepC F w vx (.lst rows) := hx
    have hy' : vy = .slice none 0 0 := hy
    subst hy'
    split at h
    · rename_i hb
      simp only [Bool.and_eq_true] at hb
      obtain ⟨d, hd, hk⟩ := ti_und hb.1
      rw [hk] at hb
      obtain ⟨e, rfl⟩ := tkOf_sl hb.2
      cases op <;> simp only [Option.some.injEq, Prod.mk.injEq, reduceCtorEq] at h
      obtain ⟨rfl, rfl⟩ := h
      cases hx' with
      | nil a cap => exact ⟨.bool a.isNone, by simp only [eqGuard_at_slice, Sem.run_bind, Sem.run_pure, Result.andThen_ok, binOp, run_equal_slice_nil w t e _ _ _ hd], ⟨_, rfl⟩⟩
      | lst b o cap rows sz vs hF hcap hsz hc hv =>
        refine ⟨.bool false, by simp only [eqGuard_at_slice, Sem.run_bind, Sem.run_pure, Result.andThen_ok, binOp, run_equal_slice_nil w t e _ _ _ hd, Option.isNone_some], ?_⟩
        cases rows with
        | nil => exact ⟨_, rfl⟩
        | cons r rows => exact RepC.bool _
    · cases h
  · have hx' : vx = .slice none 0 0 := hx
    have hy' : vy = .slice none 0 0 := hy
    subst hx' hy'
    split at h
    · rename_i hb
      simp only [Bool.and_eq_true] at hb
      obtain ⟨d, hd, hk⟩ := ti_und hb.1
      rw [hk] at hb
      obtain ⟨e, rfl⟩ := tkOf_sl hb.2
      cases op <;> simp only [Option.some.injEq, Prod.mk.injEq, reduceCtorEq] at h
      obtain ⟨rfl, rfl⟩ := h
      exact ⟨.bool true, by simp only [eqGuard_at_slice, Sem.run_bind, Sem.run_pure, Result.andThen_ok, binOp, run_equal_slice_nil w t e _ _ _ hd, Option.isNone_none], RepC.bool _⟩
    · cases h
  · cases h

def unF (op : UnOp) : PV → Option PV
  | .one (.c (.bool b)) => match op with
    | .not => some (vb (!b))
    | _ => none
  | .one (.c (.int k n)) => match op with
    | .neg => some (.one (.c (.int k (k.wrap (0 - n)))))
    | _ => none
  | _ => none

theorem unF_ok {op : UnOp} {px r : PV} {vx : Value} (h : unF op px = some r) (hx : VR g F w mem vx px) :
    ∃ u, (Op.unary op vx).run P w = .ok u w ∧ VR g F w mem u r := by
  unfold unF at h
  split at h
  · rename_i b
    have hx' : RepC F w vx (.bool b) := hx
    cases hx'
    cases op <;> simp only [Option.some.injEq, reduceCtorEq] at h
    subst h
    exact ⟨_, rfl, RepC.bool _⟩
  · rename_i k n
    have hx' : RepC F w vx (.int k n) := hx
    cases hx'
    cases op <;> simp only [Option.some.injEq, reduceCtorEq] at h
    subst h
    exact ⟨_, rfl, RepC.int _ _⟩
  · cases h

def convF (s d : TI) : PV → Option PV
  | .one (.c (.int k n)) => if s.ok && d.ok then (match d.k with
    | .int k' => some (.one (.c (.int k' (k'.wrap n))))
    | .str => some (vs (Utf8.encode n))
    | _ => none) else none
  | .one (.c (.str a)) => if s.ok && d.ok then (match d.k with
    | .str => some (vs a)
    | _ => none) else none
  | _ => none

theorem tkOf_int {d : TypeDesc} {k : IntKind} (h : tkOf P d = .int k) : d = .int k := by
  cases d <;> simp [tkOf] at h ⊢
  · exact h
  · rename_i fs
    cases hq : (fs.toList.mapM (fun f => (P.info? f.type).map fun i => (f.offset, i.size))) <;> simp [hq, tkS] at h
theorem tkOf_str {d : TypeDesc} (h : tkOf P d = .str) : d = .string := by
  cases d <;> simp [tkOf] at h ⊢
  rename_i fs
  cases hq : (fs.toList.mapM (fun f => (P.info? f.type).map fun i => (f.offset, i.size))) <;> simp [hq, tkS] at h

theorem convF_ok {s d : TypeId} {px r : PV} {vx : Value} (h : convF (ti P s) (ti P d) px = some r) (hx : VR g F w mem vx px) :
    ∃ u, (convert s d vx).run P w = .ok u w ∧ VR g F w mem u r := by
  unfold convF at h
  split at h
  · rename_i k n
    have hx' : RepC F w vx (.int k n) := hx
    cases hx'
    split at h
    · rename_i hok
      simp only [Bool.and_eq_true] at hok
      obtain ⟨ds, hs, _⟩ := ti_und hok.1
      obtain ⟨dd, hd, hk⟩ := ti_und hok.2
      rw [hk] at h
      split at h
      · rename_i k' hkk
        have := tkOf_int hkk
        subst this
        cases h
        refine ⟨.int k' (k'.wrap n), ?_, RepC.int _ _⟩
        have e : P.intKind d = k' := by simp [Program.intKind, hd]
        have := run_convert_int (P := P) w s d k n (by simp [hs]) (by rw [e]; exact hd)
        rw [e] at this
        exact this
      · rename_i hkk
        have := tkOf_str hkk
        subst this
        cases h
        refine ⟨.string (Utf8.encode n), ?_, RepC.str _⟩
        simp [convert, run_underlying hs, run_underlying hd, Conv.intToString]
      · cases h
    · cases h
  · rename_i a
    have hx' : RepC F w vx (.str a) := hx
    cases hx'
    split at h
    · rename_i hok
      simp only [Bool.and_eq_true] at hok
      obtain ⟨ds, hs, _⟩ := ti_und hok.1
      obtain ⟨dd, hd, hk⟩ := ti_und hok.2
      rw [hk] at h
      split at h
      · rename_i hkk
        have := tkOf_str hkk
        subst this
        cases h
        refine ⟨.string a, ?_, RepC.str _⟩
        simp [convert, run_underlying hs, run_underlying hd]
      · cases h
    · cases h
  · cases h

/-- How many elements or bytes. -/
def lenF (mem : Mem) : PV → Option Nat
  | .one (.c (.str s)) => some s.size
  | .one (.c (.lst rows)) => some rows.length
  | .one .nil => some 0
  | .one (.ms id) => match mem id with
    | .arr _ rows => some rows.length
    | .frz rows => some rows.length
    | .arx _ rows _ => some rows.length
    | .arz _ n _ => some n
    | _ => none
  | _ => none

def tkLen : TK → PV → Bool
  | .str, .one (.c (.str _)) => true
  | .slice _, .one (.c (.lst _)) => true
  | .slice _, .one .nil => true
  | .slice _, .one (.ms _) => true
  | _, _ => false

theorem hdr_len {q : GB} {n : Nat} (h : q.nilb = true → n = 0) : ∃ a c, hdr q n = .slice a n c := by
  unfold hdr
  split
  · rename_i hn; rw [h hn]; exact ⟨_, _, rfl⟩
  · exact ⟨_, _, rfl⟩

theorem RepC.slice {v : Value} {rows : List (List C)} (h : RepC F w v (.lst rows)) : ∃ a c, v = .slice a rows.length c := by
  cases h with
  | nil a cap => exact ⟨_, _, rfl⟩
  | lst => exact ⟨_, _, rfl⟩

theorem ms_slice {id n : Nat} {v : Value} (m : MR g F X w mem) (h : lenF mem (.one (.ms id)) = some n) (hv : VR g F w mem v (.one (.ms id))) : ∃ a c, v = .slice a n c := by
  have hv' : V1 g F w mem v (.ms id) := hv
  simp only [V1] at hv'
  have hb := m.blk id
  simp only [lenF] at h
  cases hm : mem id <;> rw [hm] at h hv' hb <;> simp only [reduceCtorEq, Option.some.injEq] at h hv'
  · subst h hv'
    obtain ⟨_, hb⟩ := hb
    refine hdr_len fun hn => ?_
    rcases hb with ⟨_, h1⟩ | ⟨h1, _⟩
    · simp [h1]
    · rw [hn] at h1; cases h1
  · subst h hv'
    exact RepC.slice hb
  · subst h hv'
    exact hdr_len fun hn => by rw [hb.2.1] at hn; cases hn
  · subst h hv'
    exact hdr_len fun hn => by rw [hb.2.1] at hn; cases hn

theorem lenF_ok {t ty : TypeId} {px : PV} {n : Nat} {vx : Value} (m : MR g F X w mem) (ht : ((ti P t).ok && tkLen (ti P t).k px) = true)
    (h : lenF mem px = some n) (hx : VR g F w mem vx px) :
    (Builtin.len_ #[t] ty #[vx]).run P w = .ok (goInt n) w := by
  rw [Bool.and_eq_true] at ht
  obtain ⟨d, hd, hk⟩ := ti_und ht.1
  replace ht := ht.2
  unfold tkLen at ht
  split at ht
  · rename_i s hq
    have := tkOf_str (hk.symm.trans hq)
    subst this
    have hx' : RepC F w vx (.str _) := hx
    cases hx'
    cases h
    simp [Builtin.len_, run_underlying hd]
  · rename_i e rows hq
    have := tkOf_slice (hk.symm.trans hq)
    subst this
    have hx' : RepC F w vx (.lst _) := hx
    obtain ⟨a, c, rfl⟩ := hx'.slice
    cases h
    simp [Builtin.len_, run_underlying hd]
  · rename_i e hq
    have := tkOf_slice (hk.symm.trans hq)
    subst this
    have hx' : vx = .slice none 0 0 := hx
    subst hx'
    cases h
    simp [Builtin.len_, run_underlying hd]
  · rename_i e id hq
    have := tkOf_slice (hk.symm.trans hq)
    subst this
    obtain ⟨a, c, rfl⟩ := ms_slice m h hx
    simp [Builtin.len_, run_underlying hd]
  · cases ht

/-- The byte of a string at an index. -/
def indexF (d : TI) : PV → PV → Option (Prop × PV)
  | .one (.c (.str s)), .one (.c (.int _ i)) => if d.ok then (match d.k with
    | .str => some (0 ≤ i ∧ i < s.size, .one (.c (.int .u8 (bt s i))))
    | _ => none) else none
  | _, _ => none

theorem bt_get {s : ByteArray} {i : Int} (h0 : 0 ≤ i) (h1 : i < s.size) : s[i.toNat]? = some (s.data.toList.getD i.toNat 0) := by
  have h : i.toNat < s.size := by omega
  rw [getElem?_pos s i.toNat h]
  have h2 : i.toNat < s.data.toList.length := by simpa using h
  simp only [List.getD, List.getElem?_eq_getElem h2, Option.getD_some]
  rfl

theorem indexF_ok {t : TypeId} {px pi r : PV} {φ : Prop} {vx vi' : Value} (h : indexF (ti P t) px pi = some (φ, r)) (hφ : φ)
    (hx : VR g F w mem vx px) (hi : VR g F w mem vi' pi) : ∃ u, (Instr.index t vx vi').run P w = .ok u w ∧ VR g F w mem u r := by
  unfold indexF at h
  split at h
  · rename_i s k i
    have hx' : RepC F w vx (.str s) := hx
    have hi' : RepC F w vi' (.int k i) := hi
    cases hx'; cases hi'
    split at h
    · rename_i hok
      obtain ⟨d, hd, hk⟩ := ti_und hok
      rw [hk] at h
      split at h
      · rename_i hkk
        have := tkOf_str hkk
        subst this
        simp only [Option.some.injEq, Prod.mk.injEq] at h
        obtain ⟨rfl, rfl⟩ := h
        refine ⟨.int .u8 (bt s i), ?_, RepC.int _ _⟩
        have hg := bt_get hφ.1 hφ.2
        simp only [Instr.index, asIntOf, Sem.run_bind, Sem.run_pure, Result.andThen_ok, run_underlying hd, hφ.1, if_true, hg]
        rfl
      · cases h
    · cases h
  · cases h

end Go.Proofs.K
/- Addresses of elements and fields; slices of slices; make; composite literals. -/
namespace Go.Proofs.K
open Go Go.RowKit

variable {P : Program} {g : Gs} {F X : Nat → Prop} {w : World} {mem : Mem}

/-- The address of a field. -/
def fieldF (s : TI) (f : Nat) : PV → Option PV
  | .one p => if s.ok then (match s.k with
    | .struct fs => match fs[f]? with
      | some (o, sz) => if sz = 0 then none else (match p with
        | .ptr id off => some (.one (.ptr id (off + o)))
        | .ep id i off => some (.one (.ep id i (off + o)))
        | .fp row off => some (.one (.fp row (off + o)))
        | _ => none)
      | none => none
    | _ => none) else none
  | _ => none

theorem tkOf_struct {d : TypeDesc} {fs : List (Nat × Nat)} (h : tkOf P d = .struct fs) : ∃ a, d = .struct a ∧ a.toList.mapM (fun f => (P.info? f.type).map fun i => (f.offset, i.size)) = some fs := by
  cases d <;> simp [tkOf] at h ⊢
  rename_i a
  cases hq : (a.toList.mapM (fun f => (P.info? f.type).map fun i => (f.offset, i.size))) <;> simp [hq, tkS] at h ⊢
  exact h

theorem places_get : ∀ (fs : List Field) (places : List (Nat × Nat)), fs.mapM (fun f => (P.info? f.type).map fun i => (f.offset, i.size)) = some places →
    ∀ (k : Nat) (o sz : Nat), places[k]? = some (o, sz) → ∃ f i, fs[k]? = some f ∧ P.info? f.type = some i ∧ f.offset = o ∧ i.size = sz
  | [], places, h, k, o, sz, hk => by simp at h; subst h; simp at hk
  | f :: fs, places, h, k, o, sz, hk => by
    simp only [List.mapM_cons, Option.bind_eq_bind, Option.pure_def] at h
    cases hi : P.info? f.type with
    | none => simp [hi] at h
    | some i =>
      cases hr : fs.mapM (fun f => (P.info? f.type).map fun i => (f.offset, i.size)) with
      | none => simp [hi, hr] at h
      | some rest =>
        simp [hi, hr] at h
        subst h
        cases k with
        | zero => simp at hk; exact ⟨f, i, rfl, hi, hk.1, hk.2⟩
        | succ k => exact places_get fs rest hr k o sz (by simpa using hk)

theorem fieldF_ok {t : TypeId} {f : Nat} {px r : PV} {vx : Value} (h : fieldF (ti P t) f px = some r) (hx : VR g F w mem vx px)
    (hl : okCells mem px = true) : ∃ u, (Instr.fieldAt t vx f).run P w = .ok u w ∧ VR g F w mem u r := by
  unfold fieldF at h
  split at h
  · rename_i p
    split at h
    · rename_i hok
      obtain ⟨d, hd, hk⟩ := ti_und hok
      split at h
      · rename_i fs hfs
        obtain ⟨a, rfl, hpl⟩ := tkOf_struct (hk.symm.trans hfs)
        split at h
        · rename_i o sz hf
          split at h
          · cases h
          · rename_i hsz
            obtain ⟨fd, i, hfd, hi, rfl, rfl⟩ := places_get _ _ hpl f o sz hf
            rw [Array.getElem?_toList] at hfd
            have hrun : ∀ b o' : Nat, (Instr.fieldAt t (.pointer (some ⟨b, o', none⟩)) f).run P w = .ok (.pointer (some ⟨b, o' + fd.offset, none⟩)) w := fun b o' => by
              simp [Instr.fieldAt, run_underlying hd, hfd, Instr.sureAddr, fieldPlace, sizeOf, typeInfo, hi, hsz, addr_add]
            split at h
            · rename_i id off
              cases h
              have hx' : V1 g F w mem vx (.ptr id off) := hx
              have hl' : live1 mem (.ptr id off) = true := hl
              simp only [V1, live1] at hx' hl'
              split at hl'
              · rename_i cs hm
                rw [hm] at hx'
                simp only at hx'
                subst hx'
                exact ⟨_, hrun _ _, by simp [VR, V0, V1, hm]⟩
              · cases hl'
            · rename_i id i off
              cases h
              have hx' : V1 g F w mem vx (.ep id i off) := hx
              have hl' : live1 mem (.ep id i off) = true := hl
              simp only [V1, live1] at hx' hl'
              split at hl'
              · rename_i sz rows hm
                rw [hm] at hx'
                obtain ⟨rfl, hlt⟩ := hx'
                exact ⟨_, hrun _ _, by simp [VR, V0, V1, hm, hlt, Nat.add_assoc]⟩
              · rename_i sz rows ov hm
                rw [hm] at hx'
                obtain ⟨rfl, hlt⟩ := hx'
                exact ⟨_, hrun _ _, by simp [VR, V0, V1, hm, hlt, Nat.add_assoc]⟩
              · rename_i sz n zs hm
                rw [hm] at hx'
                obtain ⟨rfl, hlt⟩ := hx'
                exact ⟨_, hrun _ _, by simp [VR, V0, V1, hm, hlt, Nat.add_assoc]⟩
              · cases hl'
            · rename_i row off
              cases h
              obtain ⟨b, o', rfl, hF, vs, h1, h2⟩ : V1 g F w mem vx (.fp row off) := hx
              exact ⟨_, hrun _ _, b, o', by rw [Nat.add_assoc], hF, vs, h1, h2⟩
            · cases h
        · cases h
      · cases h
    · cases h
  · cases h

/-- The address of an element. -/
def idxF (st : Option (Nat × Nat)) (mem : Mem) : PV → PV → Option (Prop × PV)
  | .one (.c (.lst rows)), .one (.c (.int _ i)) => match st with
    | some (sz, _) => some ((0 ≤ i ∧ i < rows.length) ∧ (rows.getD i.toNat []).length = sz, .one (.fp (rows.getD i.toNat []) 0))
    | none => none
  | .one (.ms id), .one (.c (.int _ i)) => match st with
    | some (sz, _) => (match mem id with
      | .arr sz' rows => if sz' = sz then some (0 ≤ i ∧ i < rows.length, .one (.ep id i.toNat 0)) else none
      | .frz rows => some ((0 ≤ i ∧ i < rows.length) ∧ (rows.getD i.toNat []).length = sz, .one (.fp (rows.getD i.toNat []) 0))
      | .arx sz' rows _ => if sz' = sz then some (0 ≤ i ∧ i < rows.length, .one (.ep id i.toNat 0)) else none
      | .arz sz' n _ => if sz' = sz then some (0 ≤ i ∧ i < n, .one (.ep id i.toNat 0)) else none
      | _ => none)
    | none => none
  | _, _ => none

theorem run_indexAt' {t : TypeId} {sz by_ : Nat} (h : SlT P t sz by_) (a : Addr) (len cap : Nat) (k : IntKind) (i : Int) (h0 : 0 ≤ i) (h1 : i < len) :
    (Instr.indexAt t (.slice (some a) len cap) (.int k i)).run P w = .ok (.pointer (some (a.add (i.toNat * sz)))) w := by
  obtain ⟨e, inf, z, hd, hi, hz, hs, hb, hzs⟩ := h.ex
  simp [Instr.indexAt, run_underlying hd, asIntOf, h0, h1, sizeOf, typeInfo, hi, hs]

theorem rep_elem {t : TypeId} {sz by_ : Nat} {rows : List (List C)} {v : Value} {k : IntKind} {i : Int} (h : SlT P t sz by_) (hv : RepC F w v (.lst rows))
    (hi : 0 ≤ i ∧ i < rows.length) (hl : (rows.getD i.toNat []).length = sz) :
    ∃ u, (Instr.indexAt t v (.int k i)).run P w = .ok u w ∧ VR g F w mem u (.one (.fp (rows.getD i.toNat []) 0)) := by
  have hlt : i.toNat < rows.length := by omega
  have hr : rows[i.toNat]? = some (rows.getD i.toNat []) := by simp [List.getD, hlt]
  cases hv with
  | nil a cap => simp at hlt
  | lst b o cap _ sz' vs hF hcap hsz hc hvv =>
    have hs : sz' = sz := by rw [← hl]; exact (hsz _ (List.mem_of_getElem? hr)).symm
    subst hs
    refine ⟨_, run_indexAt' h _ _ _ _ _ hi.1 hi.2, b, o + i.toNat * sz', by rw [addr_add]; rfl, hF, vs i.toNat, fun j x hx => ?_, fun j x hx => ?_⟩
    · rw [Nat.add_assoc]; exact hc _ j _ x hr hx
    · exact hvv _ j _ x hr hx

theorem idxF_ok {t : TypeId} {px pi r : PV} {φ : Prop} {vx vi' : Value} (m : MR g F X w mem) (h : idxF (slt P t) mem px pi = some (φ, r)) (hφ : φ)
    (hx : VR g F w mem vx px) (hi : VR g F w mem vi' pi) : ∃ u, (Instr.indexAt t vx vi').run P w = .ok u w ∧ VR g F w mem u r := by
  unfold idxF at h
  split at h
  · rename_i rows k i
    have hi' : RepC F w vi' (.int k i) := hi
    cases hi'
    split at h
    · rename_i sz by_ hst
      simp only [Option.some.injEq, Prod.mk.injEq] at h
      obtain ⟨rfl, rfl⟩ := h
      exact rep_elem (slt_ok hst) hx hφ.1 hφ.2
    · cases h
  · rename_i id k i
    have hi' : RepC F w vi' (.int k i) := hi
    cases hi'
    have hx' : V1 g F w mem vx (.ms id) := hx
    simp only [V1] at hx'
    have hb := m.blk id
    split at h
    · rename_i sz by_ hst
      split at h
      · rename_i sz' rows hm
        split at h
        · rename_i hs
          subst hs
          simp only [Option.some.injEq, Prod.mk.injEq] at h
          obtain ⟨rfl, rfl⟩ := h
          rw [hm] at hx' hb
          simp only at hx'
          subst hx'
          obtain ⟨_, hb⟩ := hb
          have hlt : i.toNat < rows.length := by omega
          rcases hb with ⟨_, h1⟩ | ⟨hn, _⟩
          · subst h1; simp at hlt
          · simp only [hdr, hn, Bool.false_eq_true, if_false]
            exact ⟨_, run_indexAt' (slt_ok hst) _ _ _ _ _ hφ.1 hφ.2, by simp [VR, V0, V1, hm, hlt, addr_add]⟩
        · cases h
      · rename_i rows hm
        simp only [Option.some.injEq, Prod.mk.injEq] at h
        obtain ⟨rfl, rfl⟩ := h
        rw [hm] at hx' hb
        simp only at hx'
        subst hx'
        exact rep_elem (slt_ok hst) hb hφ.1 hφ.2
      · rename_i sz' rows ov hm
        split at h
        · rename_i hs
          subst hs
          simp only [Option.some.injEq, Prod.mk.injEq] at h
          obtain ⟨rfl, rfl⟩ := h
          rw [hm] at hx' hb
          simp only at hx'
          subst hx'
          have hlt : i.toNat < rows.length := by omega
          simp only [hdr, hb.2.1, Bool.false_eq_true, if_false]
          exact ⟨_, run_indexAt' (slt_ok hst) _ _ _ _ _ hφ.1 hφ.2, by simp [VR, V0, V1, hm, hlt, addr_add]⟩
        · cases h
      · rename_i sz' n zs hm
        split at h
        · rename_i hs
          subst hs
          simp only [Option.some.injEq, Prod.mk.injEq] at h
          obtain ⟨rfl, rfl⟩ := h
          rw [hm] at hx' hb
          simp only at hx'
          subst hx'
          have hlt : i.toNat < n := by omega
          simp only [hdr, hb.2.1, Bool.false_eq_true, if_false]
          exact ⟨_, run_indexAt' (slt_ok hst) _ _ _ _ _ hφ.1 hφ.2, by simp [VR, V0, V1, hm, hlt, addr_add]⟩
        · cases h
      · cases h
    · cases h
  · cases h

/-- The bounds of a slice expression: given, or the end. -/
def bndF (dflt : Int) : Option PV → Option Int
  | none => some dflt
  | some (.one (.c (.int _ n))) => some n
  | _ => none

def subRows (rows : List (List C)) (l h : Int) : List (List C) := (rows.take h.toNat).drop l.toNat

/-- A slice of a string or of data: what is to be met, what it is, what is frozen. -/
def sliceF (d : TI) (st : Option (Nat × Nat)) (mem : Mem) (x : PV) (lo hi : Option PV) : Option (Prop × PV × List (Nat × Blk)) :=
  match x with
  | .one (.c (.str s)) => (match bndF 0 lo, bndF s.size hi with
    | some l, some h => if d.ok then (match d.k with
      | .str => some ((0 ≤ l ∧ l ≤ h) ∧ h ≤ s.size, vs (s.extract l.toNat h.toNat), [])
      | _ => none) else none
    | _, _ => none)
  | .one (.c (.lst rows)) => (match bndF 0 lo, bndF rows.length hi, st with
    | some l, some h, some (sz, _) => some (((0 ≤ l ∧ l ≤ h) ∧ h ≤ rows.length) ∧ (∀ r ∈ rows, r.length = sz), vl (subRows rows l h), [])
    | _, _, _ => none)
  | .one (.ms id) => (match mem id with
    | .arr sz' rows => (match bndF 0 lo, bndF rows.length hi, st with
      | some l, some h, some (sz, _) => if sz' = sz then some ((0 ≤ l ∧ l ≤ h) ∧ h ≤ rows.length, vl (subRows rows l h), [(id, .frz rows)]) else none
      | _, _, _ => none)
    | .frz rows => (match bndF 0 lo, bndF rows.length hi, st with
      | some l, some h, some (sz, _) => some (((0 ≤ l ∧ l ≤ h) ∧ h ≤ rows.length) ∧ (∀ r ∈ rows, r.length = sz), vl (subRows rows l h), [])
      | _, _, _ => none)
    | _ => none)
  | .one .nil => (match bndF 0 lo, bndF 0 hi, st with
    | some l, some h, some _ => some (l = 0 ∧ h = 0, .one .nil, [])
    | _, _, _ => none)
  | _ => none

theorem run_slice_bnd {t : TypeId} {sz by_ : Nat} (hs : SlT P t sz by_) (a : Option Addr) (len cap : Nat) (lo hi : Option PV) (vlo vhi : Option Value) (l h : Int)
    (hl : bndF 0 lo = some l) (hh : bndF len hi = some h) (h0 : 0 ≤ l) (h1 : l ≤ h) (h2 : h ≤ len) (hc : len ≤ cap)
    (hlo : ∀ p, lo = some p → ∃ v, vlo = some v ∧ VR g F w mem v p) (hlo' : lo = none → vlo = none)
    (hhi : ∀ p, hi = some p → ∃ v, vhi = some v ∧ VR g F w mem v p) (hhi' : hi = none → vhi = none) :
    (Instr.sliceAt t (.slice a len cap) vlo vhi none).run P w = .ok (.slice (if cap = l.toNat then a else a.map (·.add (l.toNat * sz))) (h.toNat - l.toNat) (cap - l.toNat)) w := by
  obtain ⟨e, inf, z, hd, hi', hz, hsz, hb, hzs⟩ := hs.ex
  have hE : P.elem t = e := by simp [Program.elem, hd]
  have hsizeOf : (sizeOf e).run P w = .ok sz w := by simp [sizeOf, typeInfo, hi', hsz]
  rw [run_sliceAt_slice (h := by rw [hE]; exact hd)]
  cases lo with
  | none =>
    rw [hlo' rfl]
    simp only [bndF, Option.some.injEq] at hl
    subst hl
    cases hi with
    | none =>
      rw [hhi' rfl]
      simp only [bndF, Option.some.injEq] at hh
      subst hh
      rw [run_slice_all (ht := by rw [hE]; exact hd), hE, hsizeOf]
      simp [sliced]
    | some p =>
      obtain ⟨v, rfl, hv⟩ := hhi p rfl
      unfold bndF at hh
      split at hh
      · rename_i heq; cases heq
      · rename_i k n heq
        cases heq; cases hh
        have hv' : RepC F w v (.int k h) := hv
        cases hv'
        rw [run_slice_h (ht := by rw [hE]; exact hd) (h0 := by omega) (h2 := by omega), hE, hsizeOf]
        simp [sliced]
      · cases hh
  | some p =>
    obtain ⟨v, rfl, hv⟩ := hlo p rfl
    unfold bndF at hl
    split at hl
    · rename_i heq; cases heq
    · rename_i k n heq
      cases heq; cases hl
      have hv' : RepC F w v (.int k l) := hv
      cases hv'
      cases hi with
      | none =>
        rw [hhi' rfl]
        simp only [bndF, Option.some.injEq] at hh
        subst hh
        rw [run_slice_l (ht := by rw [hE]; exact hd) (h0 := by omega) (h1 := by omega), hE, hsizeOf]
        simp [sliced]
      | some p =>
        obtain ⟨v, rfl, hv⟩ := hhi p rfl
        unfold bndF at hh
        split at hh
        · rename_i heq; cases heq
        · rename_i k n heq
          cases heq; cases hh
          have hv' : RepC F w v (.int k h) := hv
          cases hv'
          rw [run_slice_lh (ht := by rw [hE]; exact hd) (h0 := by omega) (h1 := by omega) (h2 := by omega), hE, hsizeOf]
          simp [sliced]
        · cases hh
    · cases hl

theorem subRows_len {rows : List (List C)} {l h : Int} (h0 : 0 ≤ l) (h1 : l ≤ h) (h2 : h ≤ rows.length) : (subRows rows l h).length = h.toNat - l.toNat := by
  simp [subRows]; omega

/-- A part of data is data. -/
theorem rep_sub {rows : List (List C)} {a : Option Addr} {len cap sz : Nat} {l h : Int} (hv : RepC F w (.slice a len cap) (.lst rows)) (h0 : 0 ≤ l) (h1 : l ≤ h) (h2 : h ≤ rows.length)
    (hsz : ∀ r ∈ rows, r.length = sz) : RepC F w (.slice (if cap = l.toNat then a else a.map (·.add (l.toNat * sz))) (h.toNat - l.toNat) (cap - l.toNat)) (.lst (subRows rows l h)) := by
  have hlen := subRows_len h0 h1 h2
  by_cases he : h.toNat - l.toNat = 0
  · have : subRows rows l h = [] := List.eq_nil_of_length_eq_zero (by rw [hlen]; exact he)
    rw [this, he]
    exact .nil _ _
  · cases hv with
    | nil => simp at h2; omega
    | lst b o cap _ sz' vs hF hcap hsz' hc hvv =>
      have hne : cap ≠ l.toNat := by omega
      have hszz : sz' = sz := by
        cases rows with
        | nil => simp at h2; omega
        | cons r rs => rw [← hsz' r (by simp), hsz r (by simp)]
      subst hszz
      rw [if_neg hne]
      simp only [Option.map_some, addr_add]
      rw [← hlen]
      have hget : ∀ i, (subRows rows l h)[i]? = if i < h.toNat - l.toNat then rows[l.toNat + i]? else none := fun i => by
        simp only [subRows, List.getElem?_drop, List.getElem?_take]
        by_cases hi : l.toNat + i < h.toNat
        · rw [if_pos hi, if_pos (by omega)]
        · rw [if_neg hi, if_neg (by omega)]
      refine .lst b (o + l.toNat * sz') (cap - l.toNat) (subRows rows l h) sz' (fun i j => vs (l.toNat + i) j) hF (by omega) (fun r hr => hsz r ?_) (fun i j r x hr hx => ?_) (fun i j r x hr hx => ?_)
      · exact List.mem_of_mem_take (List.mem_of_mem_drop hr)
      · rw [hget] at hr
        split at hr
        · have := hc (l.toNat + i) j r x hr hx
          rw [Nat.add_mul] at this
          rw [← this]
          congr 2; omega
        · cases hr
      · rw [hget] at hr
        split at hr
        · exact hvv _ j r x hr hx
        · cases hr

end Go.Proofs.K
/- Slices (done); make; composite literals; new boxes. -/
namespace Go.Proofs.K
open Go Go.RowKit

variable {P : Program} {g : Gs} {F X : Nat → Prop} {w : World} {mem : Mem}

/-- What an operation does: a value, and local memory that goes on. -/
def Does (g : Gs) (F X : Nat → Prop) (w : World) (mem : Mem) (r : PV) (mem' : Mem) (v : Value) (w' : World) : Prop :=
  ∃ g' F' X', MR g' F' X' w' mem' ∧ Ext g F X w mem g' F' X' w' mem' ∧ VR g' F' w' mem' v r

theorem Does.same {r : PV} {v : Value} (m : MR g F X w mem) (h : VR g F w mem v r) : Does g F X w mem r mem v w :=
  ⟨g, F, X, m, Ext.refl _ _ _ _ _, h⟩

theorem bnd_str {s : ByteArray} {t : TypeId} (hd : P.underlying t = some .string) (lo hi : Option PV) (vlo vhi : Option Value) (l h : Int)
    (hl : bndF 0 lo = some l) (hh : bndF s.size hi = some h) (h0 : 0 ≤ l) (h1 : l ≤ h) (h2 : h ≤ s.size)
    (hlo : ∀ p, lo = some p → ∃ v, vlo = some v ∧ VR g F w mem v p) (hlo' : lo = none → vlo = none)
    (hhi : ∀ p, hi = some p → ∃ v, vhi = some v ∧ VR g F w mem v p) (hhi' : hi = none → vhi = none) :
    (Instr.sliceAt t (.string s) vlo vhi none).run P w = .ok (.string (s.extract l.toNat h.toNat)) w := by
  rw [run_sliceAt_string (h := hd)]
  have eh : (h.toNat : Int) = h := Int.toNat_of_nonneg (by omega)
  have hbh : ∀ hi : Option PV, bndF s.size hi = some h → (∀ p, hi = some p → ∃ v, vhi = some v ∧ VR g F w mem v p) → (hi = none → vhi = none) →
      (vhi = none ∧ h = s.size) ∨ ∃ k, vhi = some (.int k h) := fun hi hh hhi hhi' => by
    cases hi with
    | none => simp only [bndF, Option.some.injEq] at hh; exact .inl ⟨hhi' rfl, hh.symm⟩
    | some p =>
      obtain ⟨v, hv1, hv⟩ := hhi p rfl
      unfold bndF at hh
      split at hh
      · rename_i heq; cases heq
      · rename_i k n heq
        cases heq; cases hh
        have hv' : RepC F w v (.int k h) := hv
        cases hv'
        exact .inr ⟨k, hv1⟩
      · cases hh
  have hbl : (vlo = none ∧ l = 0) ∨ ∃ k, vlo = some (.int k l) := by
    cases lo with
    | none => simp only [bndF, Option.some.injEq] at hl; exact .inl ⟨hlo' rfl, hl.symm⟩
    | some p =>
      obtain ⟨v, hv1, hv⟩ := hlo p rfl
      unfold bndF at hl
      split at hl
      · rename_i heq; cases heq
      · rename_i k n heq
        cases heq; cases hl
        have hv' : RepC F w v (.int k l) := hv
        cases hv'
        exact .inr ⟨k, hv1⟩
      · cases hl
  have h3 : 0 ≤ h := by omega
  have h4 : l ≤ (h.toNat : Int) := by omega
  rcases hbl with ⟨rfl, rfl⟩ | ⟨k, rfl⟩ <;> rcases hbh hi hh hhi hhi' with ⟨rfl, rfl⟩ | ⟨k', rfl⟩
  · simp [Instr.slice, run_underlying hd, Instr.sliceBounds]
  · simp [Instr.slice, run_underlying hd, Instr.sliceBounds, run_sliceBound, h2, h3]
  · have hb := run_sliceBound (P := P) (w := w) k l s.size .sliceB h0 h1
    simp [Instr.slice, run_underlying hd, Instr.sliceBounds, hb]
  · have hb := run_sliceBound (P := P) (w := w) k l h.toNat .sliceB h0 h4
    have hb2 := run_sliceBound (P := P) (w := w) k' h s.size .sliceAlen h3 h2
    simp [Instr.slice, run_underlying hd, Instr.sliceBounds, hb, hb2]

theorem RepC.cap {a : Option Addr} {n c : Nat} {rows : List (List C)} (h : RepC F w (.slice a n c) (.lst rows)) : n = rows.length ∧ n ≤ c := by
  cases h with
  | nil => exact ⟨rfl, Nat.zero_le _⟩
  | lst b o cap _ sz vs hF hcap => exact ⟨rfl, hcap⟩

theorem sliceF_ok {t : TypeId} {px r : PV} {lo hi : Option PV} {vlo vhi : Option Value} {φ : Prop} {us : List (Nat × Blk)} {vx : Value} (m : MR g F X w mem)
    (h : sliceF (ti P t) (slt P t) mem px lo hi = some (φ, r, us)) (hφ : φ) (hx : VR g F w mem vx px)
    (hlo : ∀ p, lo = some p → ∃ v, vlo = some v ∧ VR g F w mem v p) (hlo' : lo = none → vlo = none)
    (hhi : ∀ p, hi = some p → ∃ v, vhi = some v ∧ VR g F w mem v p) (hhi' : hi = none → vhi = none) :
    ∃ u, (Instr.sliceAt t vx vlo vhi none).run P w = .ok u w ∧ Does g F X w mem r (updL mem us) u w := by
  unfold sliceF at h
  split at h
  · rename_i s
    have hx' : RepC F w vx (.str s) := hx
    cases hx'
    split at h
    · rename_i l hh hl hh'
      split at h
      · rename_i hok
        obtain ⟨d, hd, hk⟩ := ti_und hok
        split at h
        · rename_i hkk
          have := tkOf_str (hk.symm.trans hkk)
          subst this
          simp only [Option.some.injEq, Prod.mk.injEq] at h
          obtain ⟨rfl, rfl, rfl⟩ := h
          exact ⟨_, bnd_str hd lo hi vlo vhi l hh hl hh' hφ.1.1 hφ.1.2 hφ.2 hlo hlo' hhi hhi', Does.same m (RepC.str _)⟩
        · cases h
      · cases h
    · cases h
  · rename_i rows
    have hx' : RepC F w vx (.lst rows) := hx
    obtain ⟨a, c, rfl⟩ := hx'.slice
    split at h
    · rename_i l hh sz by_ hl hh' hst
      simp only [Option.some.injEq, Prod.mk.injEq] at h
      obtain ⟨rfl, rfl, rfl⟩ := h
      obtain ⟨⟨⟨h0, h1⟩, h2⟩, h3⟩ := hφ
      exact ⟨_, run_slice_bnd (slt_ok hst) a rows.length c lo hi vlo vhi l hh hl hh' h0 h1 h2 hx'.cap.2 hlo hlo' hhi hhi', Does.same m (rep_sub hx' h0 h1 h2 h3)⟩
    · cases h
  · rename_i id
    have hx' : V1 g F w mem vx (.ms id) := hx
    simp only [V1] at hx'
    split at h
    · rename_i sz' rows hm
      rw [hm] at hx'
      simp only at hx'
      split at h
      · rename_i l hh sz by_ hl hh' hst
        split at h
        · rename_i hs
          subst hs
          simp only [Option.some.injEq, Prod.mk.injEq] at h
          obtain ⟨rfl, rfl, rfl⟩ := h
          obtain ⟨⟨h0, h1⟩, h2⟩ := hφ
          have hb := m.blk id
          rw [hm] at hb
          have hrsz := hb.1
          obtain ⟨F', X', m', e, hrep⟩ := m.freeze hm
          rw [← hx'] at hrep
          obtain ⟨a, c, rfl⟩ := hrep.slice
          exact ⟨_, run_slice_bnd (slt_ok hst) a rows.length c lo hi vlo vhi l hh hl hh' h0 h1 h2 hrep.cap.2 hlo hlo' hhi hhi', g, F', X', m', e, rep_sub hrep h0 h1 h2 hrsz⟩
        · cases h
      · cases h
    · rename_i rows hm
      rw [hm] at hx'
      simp only at hx'
      have hb := m.blk id
      rw [hm] at hb
      simp only [BlkR] at hb
      rw [← hx'] at hb
      split at h
      · rename_i l hh sz by_ hl hh' hst
        simp only [Option.some.injEq, Prod.mk.injEq] at h
        obtain ⟨rfl, rfl, rfl⟩ := h
        obtain ⟨⟨⟨h0, h1⟩, h2⟩, h3⟩ := hφ
        obtain ⟨a, c, rfl⟩ := hb.slice
        exact ⟨_, run_slice_bnd (slt_ok hst) a rows.length c lo hi vlo vhi l hh hl hh' h0 h1 h2 hb.cap.2 hlo hlo' hhi hhi', Does.same m (rep_sub hb h0 h1 h2 h3)⟩
      · cases h
    · cases h
  · have hx' : vx = .slice none 0 0 := hx
    subst hx'
    split at h
    · rename_i l hh q hl hh' hst
      simp only [Option.some.injEq, Prod.mk.injEq] at h
      obtain ⟨rfl, rfl, rfl⟩ := h
      obtain ⟨rfl, rfl⟩ := hφ
      refine ⟨_, run_slice_bnd (slt_ok (sz := q.1) (by_ := q.2) hst) none 0 0 lo hi vlo vhi 0 0 hl hh' (by omega) (by omega) (by omega) (by omega) hlo hlo' hhi hhi', Does.same m ?_⟩
      simp [VR, V0, V1]
    · cases h
  · cases h

/-- make of a slice: as many rows of zeros. -/
def zeroRow (s : TI) : Option (List C) := rowC (fun _ => .un) s.zero

def isNil : P1 → Bool
  | .nil => true
  | _ => false

def makeF (P : Program) (t : TypeId) (nid : Nat) : PV → PV → Option (Prop × PV × List (Nat × Blk) × Nat)
  | .one (.c (.int _ l)), .one (.c (.int _ c)) => match (ti P t).k with
    | .slice e => (match slt P t, zeroRow (ti P e) with
      | some (sz, by_), some z => some ((0 ≤ l ∧ l ≤ c) ∧ (by_ : Int) * c ≤ 281474976710656 ∧ c ≤ 9223372036854775807, .one (.ms nid),
          [(nid, if (ti P e).zero.any isNil then .arz sz l.toNat (ti P e).zero else .arr sz (List.replicate l.toNat z))], nid + 1)
      | _, _ => none)
    | _ => none
  | _, _ => none

theorem p1Of_V1 (v : Value) : V1 g F w mem v (p1Of v) := by
  unfold p1Of
  split
  · exact RepC.int _ _
  · exact RepC.bool _
  · exact RepC.str _
  · rfl
  · trivial

theorem rowC_len : ∀ {ps : List P1} {xs : List C}, rowC mem ps = some xs → xs.length = ps.length
  | [], xs, h => by cases h; rfl
  | p :: ps, xs, h => by
    simp only [rowC] at h
    split at h
    · rename_i x xs' h1 h2; cases h; simp [rowC_len h2]
    · cases h

theorem rowC_get : ∀ {ps : List P1} {xs : List C}, rowC mem ps = some xs → ∀ (i : Nat) (p : P1) (x : C), ps[i]? = some p → xs[i]? = some x → toC1 mem p = some x
  | [], xs, h, i, p, x, hp, _ => by simp at hp
  | p :: ps, xs, h, i, q, x, hp, hx => by
    simp only [rowC] at h
    split at h
    · rename_i y xs' h1 h2
      cases h
      cases i with
      | zero => simp at hp hx; subst hp hx; exact h1
      | succ i => exact rowC_get h2 i q x (by simpa using hp) (by simpa using hx)
    · cases h

theorem zero_rep {z : Value} {zr : List C} (h : rowC (fun _ => .un) (z.cells.toList.map p1Of) = some zr) (i : Nat) (v : Value) (x : C)
    (hv : z.cells[i]? = some v) (hx : zr[i]? = some x) : RepC F w v x := by
  have hp : (z.cells.toList.map p1Of)[i]? = some (p1Of v) := by simp [hv]
  have := rowC_get h i _ x hp hx
  unfold p1Of at this
  split at this <;> simp [toC1] at this <;> subst this
  · exact RepC.int _ _
  · exact RepC.bool _
  · exact RepC.str _
  · exact RepC.nil _ _

theorem madeCells_toList (z : Array Value) (n : Nat) (hz : 0 < z.size) : (madeCells z (n * z.size)).toList = (List.replicate n z.toList).flatten := by
  apply List.ext_getElem?
  intro k
  have hall : ∀ r ∈ List.replicate n z.toList, r.length = z.size := fun r hr => by rw [List.eq_of_mem_replicate hr]; simp
  have hlen := flat_length z.size _ hall
  simp only [List.length_replicate] at hlen
  by_cases hk : k < n * z.size
  · have hdm : k / z.size * z.size + k % z.size = k := by rw [Nat.mul_comm]; exact Nat.div_add_mod k z.size
    have hq : k / z.size < n := (Nat.div_lt_iff_lt_mul hz).2 hk
    have hm : k % z.size < z.size := Nat.mod_lt _ hz
    have hf := flat_get z.size _ hall (k / z.size) (k % z.size) z.toList (by simp [List.getElem?_replicate, hq]) hm
    rw [hdm] at hf
    rw [hf]
    simp [madeCells, hk, hm]
  · rw [List.getElem?_eq_none (by simp [madeCells]; omega), List.getElem?_eq_none (by rw [hlen]; omega)]

theorem flat_rep {α : Type} (l post : List α) : ∀ (n i j : Nat), i < n → j < l.length → ((List.replicate n l).flatten ++ post)[i * l.length + j]? = l[j]?
  | 0, i, j, hi, hj => by omega
  | n + 1, 0, j, hi, hj => by
    rw [List.replicate_succ, List.flatten_cons, Nat.zero_mul, Nat.zero_add, List.append_assoc, List.getElem?_append_left hj]
  | n + 1, i + 1, j, hi, hj => by
    rw [List.replicate_succ, List.flatten_cons, List.append_assoc, List.getElem?_append_right (by rw [Nat.add_mul]; omega)]
    have : (i + 1) * l.length + j - l.length = i * l.length + j := by rw [Nat.add_mul]; omega
    rw [this]
    exact flat_rep l post n i j (by omega) hj

theorem makeF_ok {t : TypeId} {pl pc r : PV} {φ : Prop} {us : List (Nat × Blk)} {nid nid' : Nat} {vl' vc : Value} (m : MR g F X w mem)
    (h : makeF P t nid pl pc = some (φ, r, us, nid')) (hφ : φ) (hl : VR g F w mem vl' pl) (hc : VR g F w mem vc pc) (hf : mem nid = .un) :
    ∃ u w', (Instr.makeSlice t vl' vc).run P w = .ok u w' ∧ Does g F X w mem r (updL mem us) u w' := by
  unfold makeF at h
  split at h
  · rename_i k l k' c
    have hl' : RepC F w vl' (.int k l) := hl
    have hc' : RepC F w vc (.int k' c) := hc
    cases hl'; cases hc'
    split at h
    · rename_i e hk
      split at h
      · rename_i sz by_ z hst hz
        simp only [Option.some.injEq, Prod.mk.injEq] at h
        obtain ⟨rfl, rfl, rfl, rfl⟩ := h
        obtain ⟨⟨h0, h1⟩, h2, h3⟩ := hφ
        obtain ⟨e', inf, zv, hd, hi, hzv, hsz, hby, hzs⟩ := (slt_ok hst).ex
        have hee : e' = e := by
          obtain ⟨d, hd', hkk⟩ : ∃ d, P.underlying t = some d ∧ (ti P t).k = tkOf P d := ti_und (by
            unfold slt at hst; rw [hk] at hst; simp only at hst; split at hst
            · rename_i hb; simp only [Bool.and_eq_true] at hb; exact hb.1
            · cases hst)
          rw [hd] at hd'; cases hd'
          rw [hk] at hkk
          simp only [tkOf, TK.slice.injEq] at hkk
          exact hkk.symm
        subst hee
        have hoke : (ti P e').ok = true := by
          unfold slt at hst; rw [hk] at hst; simp only at hst; split at hst
          · rename_i hb; simp only [Bool.and_eq_true] at hb; exact hb.2
          · cases hst
        obtain ⟨i2, d2, z2, hi2, hd2, hz2, _, hs2, hb2, hzz2, hzs2⟩ := ti_ok hoke
        rw [hi] at hi2; cases hi2
        rw [hzv] at hz2; cases hz2
        unfold zeroRow at hz
        rw [hzz2] at hz
        have hzl := rowC_len hz
        simp only [List.length_map, Array.length_toList] at hzl
        have hrun := run_makeSlice (P := P) w t e' inf zv hd hi hzv k k' l c h0 h1
        refine ⟨_, _, run_make w t e' inf zv hd hi hzv k k' l c h0 h1 (by rw [hby]; exact h2) h3, ?_⟩
        have hcells : ∃ post, (madeCells zv.cells (c.toNat * inf.size)).toList = (List.replicate l.toNat zv.cells.toList).flatten ++ post := by
          rcases Nat.eq_zero_or_pos inf.size with h | h
          · refine ⟨[], ?_⟩
            have h5 : zv.cells.size = 0 := by omega
            have : zv.cells = #[] := Array.eq_empty_of_size_eq_zero h5
            rw [this]
            simp [madeCells, h]
          · refine ⟨(List.replicate (c.toNat - l.toNat) zv.cells.toList).flatten, ?_⟩
            rw [← hzs2, madeCells_toList _ _ (by omega), ← List.flatten_append, List.replicate_append_replicate]
            congr 2; omega
        obtain ⟨post, hcells⟩ := hcells
        obtain ⟨g', m', x', v', _⟩ := new_arr (t := e') (id := nid) (sz := sz) (cap := c.toNat) (rows := List.replicate l.toNat z) (vr := List.replicate l.toNat zv.cells.toList) (post := post) m hf
          ⟨by simp, fun r hr => by rw [List.eq_of_mem_replicate hr]; simp; omega, fun r hr => by rw [List.eq_of_mem_replicate hr]; omega,
           fun i j vrow r v x k1 k2 k3 k4 => by
            have e1 := List.eq_of_mem_replicate (List.mem_of_getElem? k1)
            have e2 := List.eq_of_mem_replicate (List.mem_of_getElem? k2)
            subst e1 e2
            exact zero_rep hz j v x (by simpa using k3) k4⟩ hcells (by simp; omega) (by simp [madeCells, hsz])
        simp only [List.length_replicate] at v'
        by_cases hnil : (ti P e').zero.any isNil = true
        · have hzl2 : (ti P e').zero = zv.cells.toList.map p1Of := hzz2
          obtain ⟨m2, e2⟩ := m.add (id := nid) (o := .cells (madeCells zv.cells (c.toNat * inf.size)) e') (b := .arz sz l.toNat (ti P e').zero) (q := ⟨w.heap.size, 0, c.toNat, false⟩) hf rfl (fun mem' hm' => by
            refine ⟨by rw [hzl2]; simp; omega, by rw [upd_same], by rw [upd_same]; show l.toNat ≤ c.toNat; omega, _, e', by rw [upd_same]; exact heap_alloc_new _ _, by rw [upd_same]; simp [madeCells, hsz], fun i j z hi hz => ?_⟩
            rw [hzl2, List.getElem?_map, Option.map_eq_some_iff] at hz
            obtain ⟨v, hv, rfl⟩ := hz
            refine ⟨v, ?_, p1Of_V1 v⟩
            rw [upd_same]
            show (madeCells zv.cells (c.toNat * inf.size))[0 + (i * sz + j)]? = some v
            rw [← Array.getElem?_toList, hcells, Nat.zero_add]
            have hj : j < zv.cells.toList.length := (List.getElem?_eq_some_iff.1 hv).1
            have hlen : sz = zv.cells.toList.length := by simp; omega
            rw [hlen, flat_rep _ _ _ _ _ hi hj, hv])
          rw [if_pos hnil]
          exact ⟨_, F, X, m2, e2, by simp [VR, V0, V1, hdr, updL]⟩
        · rw [if_neg hnil]
          exact ⟨g', F, X, m', x', v'⟩
      · cases h
    · cases h
  · cases h

end Go.Proofs.K
/- Composite literals; new boxes. -/
namespace Go.Proofs.K
open Go Go.RowKit

variable {P : Program} {g : Gs} {F X : Nat → Prop} {w : World} {mem : Mem}

theorem fold_splice : ∀ (l : List Value) (k off : Nat) (cs : Array Value), off + k + l.length ≤ cs.size →
    ((l.zipIdx k).foldl (fun (cs : Array Value) (x : Value × Nat) => cs.setIfInBounds (off + x.2) x.1) cs).toList = cs.toList.take (off + k) ++ l ++ cs.toList.drop (off + k + l.length)
  | [], k, off, cs, h => by simp
  | v :: l, k, off, cs, h => by
    simp only [List.zipIdx_cons, List.foldl_cons]
    rw [fold_splice l (k + 1) off _ (by simp at h ⊢; omega)]
    have e := list_seg_step cs.toList (off + k) v l (by simp at h ⊢; omega)
    simpa [Array.toList_setIfInBounds, Nat.add_assoc] using e

theorem fill_step {place : Nat → Option (Nat × Nat)} {cells : Array Value} {i off size : Nat} {v : Value} {rest : List (Nat × Value)}
    (hp : place i = some (off, size)) (hs : v.cells.size = size) (hf : off + size ≤ cells.size) :
    ∃ cells', Instr.fill place cells ((i, v) :: rest) = Instr.fill place cells' rest ∧ cells'.toList = splice cells.toList off v.cells.toList := by
  refine ⟨v.cells.zipIdx.foldl (fun (cs : Array Value) (x : Value × Nat) => cs.setIfInBounds (off + x.2) x.1) cells, ?_, ?_⟩
  · have h1 : ¬ (v.cells.size ≠ size ∨ off + v.cells.size > cells.size) := by omega
    simp only [Instr.fill, hp]
    rw [if_neg (by simp; omega)]
  · rw [← Array.foldl_toList, Array.toList_zipIdx]
    have := fold_splice v.cells.toList 0 off cells (by simp; omega)
    simpa [splice] using this

def fillP (fs : List (Nat × Nat)) (mem : Mem) : List P1 → List (Nat × PV) → Option (List P1)
  | cs, [] => some cs
  | cs, (i, x) :: rest => match fs[i]? with
    | some (off, size) => if okCells mem x && (x.cells.length == size && decide (off + size ≤ cs.length)) then fillP fs mem (splice cs off x.cells) rest else none
    | none => none

theorem fillP_ok {fs : List (Nat × Nat)} {place : Nat → Option (Nat × Nat)} (hpl : ∀ i, place i = fs[i]?) :
    ∀ (ps : List (Nat × PV)) (vs : List (Nat × Value)) (cs cs' : List P1) (cells : Array Value),
    fillP fs mem cs ps = some cs' → ps.length = vs.length → (∀ (k : Nat) (p : Nat × PV) (v : Nat × Value), ps[k]? = some p → vs[k]? = some v → p.1 = v.1 ∧ VR g F w mem v.2 p.2) →
    cells.size = cs.length → (∀ (k : Nat) (q : P1) (u : Value), cs[k]? = some q → cells[k]? = some u → V1 g F w mem u q) →
    ∃ cells', Instr.fill place cells vs = some cells' ∧ cells'.size = cs'.length ∧ ∀ (k : Nat) (q : P1) (u : Value), cs'[k]? = some q → cells'[k]? = some u → V1 g F w mem u q
  | [], vs, cs, cs', cells, h, hl, hv, hs, hc => by
    cases vs with
    | nil => simp only [fillP, Option.some.injEq] at h; subst h; exact ⟨cells, rfl, hs, hc⟩
    | cons => simp at hl
  | (i, x) :: ps, vs, cs, cs', cells, h, hl, hv, hs, hc => by
    cases vs with
    | nil => simp at hl
    | cons v vs =>
      obtain ⟨j, v⟩ := v
      obtain ⟨hij, hxv⟩ := hv 0 (i, x) (j, v) rfl rfl
      have hij : i = j := hij
      subst hij
      simp only [fillP] at h
      split at h
      · rename_i off size hfs
        split at h
        · rename_i hcond
          simp only [Bool.and_eq_true, beq_iff_eq, decide_eq_true_eq] at hcond
          obtain ⟨hok, hlen, hfit⟩ := hcond
          obtain ⟨hsz0, hrel0⟩ := VR.cells2 hxv hok
          have hsz : v.cells.size = x.cells.length := hsz0
          have hrel : ∀ (i : Nat) (q : P1) (u : Value), x.cells[i]? = some q → v.cells.toList[i]? = some u → V1 g F w mem u q := hrel0
          obtain ⟨cells', hfill, hcl⟩ := fill_step (rest := vs) (place := place) (i := i) (off := off) (size := size) (v := v) (cells := cells) (by rw [hpl, hfs]) (by omega) (by omega)
          rw [hfill]
          have hsl : splice cells.toList off v.cells.toList = cells'.toList := hcl.symm
          have hlen2 : cells'.size = cells.size := by
            have := splice_length (cs := cells.toList) (xs := v.cells.toList) (off := off) (by simp; omega)
            rw [hsl] at this
            simpa using this
          refine fillP_ok hpl ps vs (splice cs off x.cells) cs' cells' h (by simpa using hl) (fun k p v hp hv' => hv (k + 1) p v (by simpa using hp) (by simpa using hv')) ?_ ?_
          · rw [splice_length (by omega), hlen2, hs]
          · intro k q u hq hu
            rw [splice_get (by omega)] at hq
            rw [← Array.getElem?_toList, ← hsl, splice_get (by simp; omega)] at hu
            have hvl : v.cells.toList.length = x.cells.length := by simp; omega
            rw [hvl] at hu
            by_cases hk : off ≤ k ∧ k < off + x.cells.length
            · rw [if_pos hk] at hq hu
              exact hrel _ q u hq hu
            · rw [if_neg hk] at hq hu
              exact hc k q u hq (by rw [← Array.getElem?_toList]; exact hu)
        · cases h
      · cases h

def buildF (s : TI) (mem : Mem) (parts : List (Nat × PV)) : Option PV :=
  if s.ok then (match s.k with
    | .struct fs => (match fillP fs mem s.zero parts with
      | some cs => some (.agg cs)
      | none => none)
    | _ => none) else none

theorem buildF_ok {t : TypeId} {parts : List (Nat × PV)} {vs : Array (Nat × Value)} {r : PV} (h : buildF (ti P t) mem parts = some r) (hl : parts.length = vs.size)
    (hv : ∀ (k : Nat) (p : Nat × PV) (v : Nat × Value), parts[k]? = some p → vs.toList[k]? = some v → p.1 = v.1 ∧ VR g F w mem v.2 p.2) :
    ∃ u, (Instr.build t vs).run P w = .ok u w ∧ VR g F w mem u r := by
  unfold buildF at h
  split at h
  · rename_i hok
    obtain ⟨i, d, z, hi, hd, hz, hk, hs, hb, hzz, hzs⟩ := ti_ok hok
    split at h
    · rename_i fs hfs
      obtain ⟨a, rfl, hpl⟩ := tkOf_struct (hk.symm.trans hfs)
      split at h
      · rename_i cs hcs
        cases h
        obtain ⟨cells', hfill, hsz, hrel⟩ := fillP_ok (place := (fs.toArray[·]?)) (fun i => by simp) parts vs.toList (ti P t).zero cs z.cells hcs (by simpa using hl) hv (by rw [hzz]; simp)
          (fun k q u hq hu => by rw [hzz] at hq; simp [hu] at hq; subst hq; exact p1Of_V1 u)
        refine ⟨.agg cells', run_build w t vs cells' ?_, cells', rfl, hsz, fun k p hp => ?_⟩
        · simp only [Program.built, hi, hd, hz, hpl]
          exact hfill
        · have hlt : k < cells'.size := by rw [hsz]; exact (List.getElem?_eq_some_iff.1 hp).1
          exact ⟨cells'[k], by simp [hlt], hrel k p _ hp (by simp [hlt])⟩
      · cases h
    · cases h
  · cases h

/-- A literal of a slice: each element is given, in order. -/
def partsOk (mem : Mem) (size : Nat) : Nat → List (Nat × PV) → Bool
  | _, [] => true
  | k, (i, x) :: rest => i == k && (okCells mem x && (x.cells.length == size && partsOk mem size (k + 1) rest))

def litRows (mem : Mem) : List (Nat × PV) → Option (List (List C))
  | [] => some []
  | (_, x) :: rest => match rowC mem x.cells, litRows mem rest with
    | some r, some rs => some (r :: rs)
    | _, _ => none

def litCells : List (Nat × PV) → List P1
  | [] => []
  | (_, x) :: rest => x.cells ++ litCells rest

def litF (st : Option (Nat × Nat)) (mem : Mem) (nid : Nat) (len : Nat) (parts : List (Nat × PV)) : Option (PV × List (Nat × Blk) × Nat) :=
  match st with
  | some (sz, _) => if (parts.length == len && partsOk mem sz 0 parts) && decide (len * sz ≤ 16777216) then (match litRows mem parts with
    | some rows => some (.one (.ms nid), frzL mem (litCells parts) ++ [(nid, .arr sz rows)], nid + 1)
    | none => none) else none
  | none => none

theorem fill_lit {sz : Nat} {place : Nat → Option (Nat × Nat)} (hpl : ∀ i, place i = some (i * sz, sz)) : ∀ (vs : List (Nat × Value)) (k : Nat) (cells : Array Value) (done : List Value),
    (∀ (j : Nat) (v : Nat × Value), vs[j]? = some v → v.1 = k + j ∧ v.2.cells.size = sz) → done.length = k * sz → (∃ rest, cells.toList = done ++ rest) → cells.size = (k + vs.length) * sz →
    ∃ cells', Instr.fill place cells vs = some cells' ∧ cells'.toList = done ++ (vs.map fun v => v.2.cells.toList).flatten
  | [], k, cells, done, hv, hd, ⟨rest, hc⟩, hs => by
    refine ⟨cells, rfl, ?_⟩
    have : rest = [] := by
      have h1 := congrArg List.length hc
      simp at h1 hs
      exact List.eq_nil_of_length_eq_zero (by omega)
    subst this
    simpa using hc
  | (i, v) :: vs, k, cells, done, hv, hd, ⟨rest, hc⟩, hs => by
    obtain ⟨hi, hsz⟩ := hv 0 (i, v) rfl
    have hi : i = k := by simpa using hi
    have hsz : v.cells.size = sz := hsz
    subst hi
    have hs' : cells.size = i * sz + (sz + vs.length * sz) := by
      rw [hs, List.length_cons, Nat.add_mul, Nat.add_mul, Nat.one_mul]; omega
    obtain ⟨cells', hfill, hcl⟩ := fill_step (rest := vs) (place := place) (i := i) (off := i * sz) (size := sz) (v := v) (cells := cells) (hpl i) hsz (by omega)
    rw [hfill]
    have hvl : v.cells.toList.length = sz := by simpa using hsz
    have hcl2 : cells'.toList = done ++ v.cells.toList ++ rest.drop sz := by
      rw [hcl, splice, hc, ← hd, List.take_left', hvl]
      · congr 1
        rw [List.drop_append]
        simp
      · rfl
    obtain ⟨cells'', h1, h2⟩ := fill_lit hpl vs (i + 1) cells' (done ++ v.cells.toList) (fun j u hu => by
        have := hv (j + 1) u (by simpa using hu)
        exact ⟨by omega, this.2⟩) (by rw [List.length_append, hvl, hd, Nat.add_mul, Nat.one_mul]) ⟨_, hcl2⟩ (by
        have := congrArg List.length hcl
        rw [splice_length (by rw [hvl]; simp; omega)] at this
        simp at this
        rw [this, hs', Nat.add_mul, Nat.add_mul, Nat.one_mul]; omega)
    refine ⟨cells'', h1, ?_⟩
    rw [h2]
    simp

theorem partsOk_get {sz : Nat} : ∀ {ps : List (Nat × PV)} {k : Nat}, partsOk mem sz k ps = true → ∀ (j : Nat) (p : Nat × PV), ps[j]? = some p → p.1 = k + j ∧ okCells mem p.2 = true ∧ p.2.cells.length = sz
  | [], k, _, j, p, hp => by simp at hp
  | (i, x) :: rest, k, h, j, p, hp => by
    simp only [partsOk, Bool.and_eq_true, beq_iff_eq] at h
    obtain ⟨rfl, h2, h3, h4⟩ := h
    cases j with
    | zero => simp at hp; subst hp; exact ⟨rfl, h2, h3⟩
    | succ j =>
      have := partsOk_get h4 j p (by simpa using hp)
      exact ⟨by omega, this.2⟩

theorem rowC_append : ∀ {ps qs : List P1} {xs ys : List C}, rowC mem ps = some xs → rowC mem qs = some ys → rowC mem (ps ++ qs) = some (xs ++ ys)
  | [], qs, xs, ys, h, k => by cases h; exact k
  | p :: ps, qs, xs, ys, h, k => by
    simp only [rowC] at h
    split at h
    · rename_i x xs' h1 h2
      cases h
      simp only [List.cons_append, rowC, h1, rowC_append h2 k]
    · cases h

theorem lit_flat {sz : Nat} : ∀ {ps : List (Nat × PV)} {rows : List (List C)} {vs : List (Nat × Value)}, litRows mem ps = some rows → ps.length = vs.length →
    (∀ (j : Nat) (p : Nat × PV) (v : Nat × Value), ps[j]? = some p → vs[j]? = some v → okCells mem p.2 = true ∧ p.2.cells.length = sz ∧ VR g F w mem v.2 p.2) →
    rowC mem (litCells ps) = some rows.flatten ∧ (vs.map fun v => v.2.cells.toList).flatten.length = (litCells ps).length ∧ rows.length = ps.length ∧ (∀ r ∈ rows, r.length = sz) ∧
      (∀ v ∈ vs, v.2.cells.size = sz) ∧
      ∀ (i : Nat) (q : P1) (u : Value), (litCells ps)[i]? = some q → (vs.map fun v => v.2.cells.toList).flatten[i]? = some u → V1 g F w mem u q
  | [], rows, vs, h, hl, hv => by
    cases h
    have : vs = [] := List.eq_nil_of_length_eq_zero (by simpa using hl.symm)
    subst this
    exact ⟨rfl, rfl, rfl, by simp, by simp, fun i q u hq => by simp [litCells] at hq⟩
  | (i, x) :: ps, rows, vs, h, hl, hv => by
    cases vs with
    | nil => simp at hl
    | cons v vs =>
      simp only [litRows] at h
      split at h
      · rename_i r rs h1 h2
        cases h
        obtain ⟨k1, k2, k3, k4, k5, k6⟩ := lit_flat (sz := sz) h2 (by simpa using hl) (fun j p u hp hu => hv (j + 1) p u (by simpa using hp) (by simpa using hu))
        obtain ⟨a1, a2, a3⟩ := hv 0 (i, x) v rfl rfl
        obtain ⟨b1, b2⟩ := VR.cells2 a3 a1
        have b1 : v.2.cells.size = x.cells.length := b1
        have a2 : x.cells.length = sz := a2
        have b2 : ∀ (i : Nat) (q : P1) (u : Value), x.cells[i]? = some q → v.2.cells.toList[i]? = some u → V1 g F w mem u q := b2
        refine ⟨?_, ?_, by simp [k3], fun r' hr' => ?_, fun v' hv' => ?_, fun i q u hq hu => ?_⟩
        · simp only [litCells, List.flatten_cons]; exact rowC_append h1 k1
        · simp only [List.map_cons, List.flatten_cons, List.length_append, k2, litCells]
          simp [b1]
        · rcases List.mem_cons.1 hr' with rfl | hr'
          · rw [rowC_len h1, a2]
          · exact k4 r' hr'
        · rcases List.mem_cons.1 hv' with rfl | hv'
          · omega
          · exact k5 v' hv'
        · simp only [litCells, List.map_cons, List.flatten_cons, List.getElem?_append] at hq hu
          have : v.2.cells.toList.length = x.cells.length := by simp [b1]
          rw [this] at hu
          split at hq
          · rename_i hlt; rw [if_pos hlt] at hu; exact b2 i q u hq hu
          · rename_i hlt; rw [if_neg hlt] at hu; exact k6 _ q u hq hu
      · cases h

theorem updL_append {α : Type} : ∀ (us vs : List (Nat × α)) (f : Nat → α), updL f (us ++ vs) = updL (updL f us) vs
  | [], vs, f => rfl
  | (i, v) :: us, vs, f => updL_append us vs (upd f i v)

theorem frzL_un : ∀ (ps : List P1) (mem : Mem) (id : Nat), mem id = .un → updL mem (frzL mem ps) id = .un
  | [], mem, id, h => h
  | p :: ps, mem, id, h => by
    cases p <;> simp only [frzL] <;> try exact frzL_un ps mem id h
    rename_i k
    split
    · rename_i sz rows hm
      have hne : id ≠ k := fun e => by subst e; rw [h] at hm; cases hm
      exact frzL_un ps _ id (by rw [upd_ne _ _ hne]; exact h)
    · exact frzL_un ps mem id h

theorem litF_ok {t : TypeId} {len : Nat} {parts : List (Nat × PV)} {vs : Array (Nat × Value)} {r : PV} {us : List (Nat × Blk)} {nid nid' : Nat} (m : MR g F X w mem)
    (h : litF (slt P t) mem nid len parts = some (r, us, nid')) (hl : parts.length = vs.size) (hf : mem nid = .un)
    (hv : ∀ (k : Nat) (p : Nat × PV) (v : Nat × Value), parts[k]? = some p → vs.toList[k]? = some v → p.1 = v.1 ∧ VR g F w mem v.2 p.2) :
    ∃ u w', (Instr.buildSlice t len vs).run P w = .ok u w' ∧ Does g F X w mem r (updL mem us) u w' := by
  unfold litF at h
  split at h
  · rename_i sz by_ hst
    split at h
    · rename_i hcond
      simp only [Bool.and_eq_true, beq_iff_eq, decide_eq_true_eq] at hcond
      obtain ⟨⟨hlen, hpo⟩, hbig⟩ := hcond
      split at h
      · rename_i rows hrows
        simp only [Option.some.injEq, Prod.mk.injEq] at h
        obtain ⟨rfl, rfl, rfl⟩ := h
        obtain ⟨e, inf, zv, hd, hi, hzv, hsz, hby, hzs⟩ := (slt_ok hst).ex
        have hgo := partsOk_get hpo
        obtain ⟨k1, k2, k3, k4, k5, k6⟩ := lit_flat (sz := sz) (vs := vs.toList) hrows (by simpa using hl) (fun j p v hp hv' => ⟨(hgo j p hp).2.1, (hgo j p hp).2.2, (hv j p v hp hv').2⟩)
        obtain ⟨F', X', m', e', hxl, hrep⟩ := freezeL (litCells parts) mem F X m _ _ k1 k2 k6
        obtain ⟨cells', hfill, hcl⟩ := fill_lit (sz := sz) (place := fun i => some (i * sz, sz)) (fun _ => rfl) vs.toList 0
          ((Array.range (len * sz)).map ((if len * sz = 0 then #[] else zv.cells)[· % (if len * sz = 0 then #[] else zv.cells).size]!)) [] (fun j v hj => by
            have hlt : j < parts.length := by
              have := (List.getElem?_eq_some_iff.1 hj).1
              simp at this; omega
            have := hv j parts[j] v (by simp [hlt]) hj
            exact ⟨by rw [← this.1]; exact (hgo j _ (by simp [hlt])).1, k5 v (List.mem_of_getElem? hj)⟩) (by simp) ⟨_, rfl⟩ (by simp [show vs.size = len by omega])
        simp only [List.nil_append] at hcl
        have hbig' : ¬ (16777216 < len * sz) := by omega
        have hrun : (Instr.buildSlice t len vs).run P w = .ok (.slice (some ⟨w.heap.size, 0, none⟩) len len) (w.alloc (.cells cells' e)) := by
          by_cases h0 : len * sz = 0
          · simp only [h0, if_true] at hfill
            have hfill' : Instr.fill (fun i => some (i * sz, sz)) (Array.map (fun _ => (default : Value)) (Array.range 0)) vs.toList = some cells' := by
              rw [← hfill]; congr 1
            simp [Instr.buildSlice, run_underlying hd, sizeOf, typeInfo, hi, hsz, h0, hfill', newRow]
          · simp only [h0, if_false] at hfill
            simp [Instr.buildSlice, run_underlying hd, sizeOf, typeInfo, hi, hsz, h0, hbig', zeroValue, hzv, hfill, newRow]
        have hvl : (vs.toList.map fun v => v.2.cells.toList).length = rows.length := by simp; omega
        obtain ⟨g', m2, e2, v2, _⟩ := new_arr (t := e) (id := nid) (sz := sz) (cap := len) (cells := cells') (rows := rows) (vr := vs.toList.map fun v => v.2.cells.toList) (post := []) m' (frzL_un _ _ _ hf)
          ⟨hvl, fun r hr => by obtain ⟨v, hv1, rfl⟩ := List.mem_map.1 hr; simpa using k5 v hv1, k4, fun i j vrow r v x h1 h2 h3 h4 => by
            have hj : j < sz := by rw [← k4 r (List.mem_of_getElem? h2)]; exact (List.getElem?_eq_some_iff.1 h4).1
            have f1 := flat_get sz rows k4 i j r h2 hj
            have f2 := flat_get sz (vs.toList.map fun v => v.2.cells.toList) (fun r hr => by obtain ⟨v, hv1, rfl⟩ := List.mem_map.1 hr; simpa using k5 v hv1) i j vrow h1 hj
            exact hrep (i * sz + j) x v (by rw [f1]; exact h4) (by rw [f2]; exact h3)⟩
          (by rw [hcl]; simp) (by omega) (by
            have h1 := congrArg List.length hcl
            rw [flat_length sz _ (fun r hr => by obtain ⟨v, hv1, rfl⟩ := List.mem_map.1 hr; simpa using k5 v hv1), hvl] at h1
            simp at h1
            rw [h1, k3, hlen]; exact Nat.le_refl _)
        refine ⟨_, _, hrun, g', F', X', ?_⟩
        rw [updL_append]
        have : rows.length = len := by omega
        rw [this] at v2
        exact ⟨m2, e'.trans e2, v2⟩
      · cases h
    · cases h
  · cases h

end Go.Proofs.K
/- The append of a make; a fresh array that is cut; how much a nil slice holds. -/
namespace Go.Proofs.K
open Go Go.RowKit

variable {P : Program} {g : Gs} {F X : Nat → Prop} {w : World} {mem : Mem}

structure Out where
  φ : Prop
  r : PV
  us : List (Nat × Blk)
  nid : Nat

/-- How many elements fit: of a nil slice none. -/
def capF (st : Option (Nat × Nat)) : PV → Option PV
  | .one .nil => match st with
    | some _ => some (vi 0)
    | none => none
  | _ => none

/-- 'append(nil, make(..)...)': a new array of zeros. -/
def appZ (P : Program) (t u : TypeId) (nid : Nat) : PV → PV → Option Out
  | .one .nil, .one (.c (.int _ n)) => match (ti P t).k, (ti P u).k, slt P t with
    | .slice e, .int _, some (sz, by_) => if (ti P u).ok then some ⟨(0 < n ∧ 0 < sz) ∧ n ≤ 9223372036854775807 ∧ n * (by_ : Int) ≤ 140737488355328, .one (.ms nid), [(nid, .arz sz n.toNat (ti P e).zero)], nid + 1⟩ else none
    | _, _, _ => none
  | _, _ => none

/-- A fresh array cut to its first elements. -/
def cutF (st : Option (Nat × Nat)) (mem : Mem) (nid : Nat) : PV → Option PV → Option PV → Option (Prop × PV × List (Nat × Blk) × Nat)
  | .one (.ms id), none, hi => match mem id with
    | .arz sz' n zs => (match bndF n hi, st, rowC (fun _ => .un) zs with
      | some h, some (sz, _), some z => if sz' = sz then some (0 ≤ h ∧ h ≤ n, .one (.ms nid), [(id, .dead), (nid, .arr sz (List.replicate h.toNat z))], nid + 1) else none
      | _, _, _ => none)
    | _ => none
  | _, _, _ => none

theorem slt_elem {t : TypeId} {e : TypeId} {q : Nat × Nat} (hk : (ti P t).k = .slice e) (h : slt P t = some q) : P.underlying t = some (.slice e) ∧ (ti P e).ok = true ∧ q = ((ti P e).size, (ti P e).bytes) := by
  unfold slt at h
  rw [hk] at h
  simp only at h
  split at h
  · rename_i hb
    simp only [Bool.and_eq_true] at hb
    cases h
    obtain ⟨d, hd, hkk⟩ := ti_und hb.1
    rw [hk] at hkk
    exact ⟨by rw [hd, tkOf_slice hkk.symm], hb.2, rfl⟩
  · cases h

theorem capF_ok {t ty : TypeId} {x r : PV} {vx : Value} (h : capF (slt P t) x = some r) (hx : VR g F w mem vx x) :
    ∃ u, (Builtin.cap_ #[t] ty #[vx]).run P w = .ok u w ∧ VR g F w mem u r := by
  unfold capF at h
  split at h
  · split at h
    · rename_i q hq
      cases h
      have hx' : vx = .slice none 0 0 := hx
      subst hx'
      obtain ⟨e, _, _, hd, _⟩ := (slt_ok (sz := q.1) (by_ := q.2) hq).ex
      have hE : P.elem t = e := by simp [Program.elem, hd]
      exact ⟨_, run_cap_slice w t ty none 0 0 (by rw [hE]; exact hd), RepC.int _ _⟩
    · cases h
  · cases h

theorem zeroCells_get {z : Array Value} {n i j : Nat} (hi : i < n) (hj : j < z.size) : (Builtin.zeroCells z n)[i * z.size + j]? = z[j]? := by
  have h1 : i * z.size + j < n * z.size := by
    have : (i + 1) * z.size ≤ n * z.size := Nat.mul_le_mul_right _ hi
    rw [Nat.add_mul, Nat.one_mul] at this
    omega
  have h2 : (i * z.size + j) % z.size = j := by
    rw [Nat.mul_comm, Nat.mul_add_mod]
    exact Nat.mod_eq_of_lt hj
  unfold Builtin.zeroCells
  rw [Array.getElem?_map, Array.getElem?_range]
  simp [h1, h2, hj]

theorem appZ_ok {t u ty : TypeId} {x y : PV} {o : Out} {nid : Nat} {vx vy : Value} (m : MR g F X w mem) (h : appZ P t u nid x y = some o) (hφ : o.φ)
    (hx : VR g F w mem vx x) (hy : VR g F w mem vy y) (hf : ∀ id, nid ≤ id → id < o.nid → mem id = .un) :
    ∃ v w', (Builtin.append_ #[t, u] ty #[vx, vy]).run P w = .ok v w' ∧ Does g F X w mem o.r (updL mem o.us) v w' := by
  unfold appZ at h
  split at h
  · rename_i k n
    split at h
    · rename_i e ku sz by_ hk hku hst
      split at h
      · rename_i hok
        cases h
        obtain ⟨⟨h0, hsz⟩, h1, h2⟩ := hφ
        have hx' : vx = .slice none 0 0 := hx
        have hy' : RepC F w vy (.int k n) := hy
        subst hx'
        cases hy'
        obtain ⟨hd, hoke, hq⟩ := slt_elem hk hst
        cases hq
        obtain ⟨i, d, z, hi, _, hz, _, hs, hb, hzz, hzs⟩ := ti_ok hoke
        obtain ⟨du, hdu, hkk⟩ := ti_und hok
        rw [hku] at hkk
        have hdu' := tkOf_int hkk.symm
        subst hdu'
        obtain ⟨N, rfl⟩ := Int.eq_ofNat_of_zero_le (Int.le_of_lt h0)
        have h48 : N * i.bytes ≤ 281474976710656 := by
          rw [hb] at h2
          have h3 : ((N * i.bytes : Nat) : Int) ≤ 140737488355328 := by rw [Int.natCast_mul]; exact h2
          omega
        have hrun := Lib.run_append_nil_zeros (P := P) w t u ty e i z k ku hd hdu hi hz N (by omega) (by omega) (by omega) h48
        refine ⟨_, _, hrun, ?_⟩
        have m1 := m.drew
        obtain ⟨m2, e2⟩ := m1.add (id := nid) (o := .cells (Builtin.zeroCells z.cells N ++ Builtin.zeroCells z.cells (grownCap w N 0 e - N)) e) (b := .arz (ti P e).size N (ti P e).zero) (q := ⟨w.heap.size, 0, grownCap w N 0 e, false⟩) (hf nid (Nat.le_refl _) (by simp)) rfl (fun mem' hm' => by
          have hge := grownCap_ge w N 0 e
          refine ⟨by rw [hzz]; simp; omega, by rw [upd_same], by rw [upd_same]; exact hge, _, e, by rw [upd_same]; exact heap_alloc_new _ _, ?_, fun a b zz ha hb => ?_⟩
          · rw [upd_same]
            simp only [Array.size_append, size_zeroCells, hzs, hs, ← Nat.add_mul]
            rw [show N + (grownCap w N 0 e - N) = grownCap w N 0 e by omega]
            simp
          · rw [hzz, List.getElem?_map, Option.map_eq_some_iff] at hb
            obtain ⟨v, hv, rfl⟩ := hb
            refine ⟨v, ?_, p1Of_V1 v⟩
            have hj : b < z.cells.size := by have := (List.getElem?_eq_some_iff.1 hv).1; simpa using this
            have hsz2 : (ti P e).size = z.cells.size := by omega
            rw [upd_same]
            show (Builtin.zeroCells z.cells N ++ _)[0 + (a * (ti P e).size + b)]? = some v
            rw [Nat.zero_add, hsz2, Array.getElem?_append, if_pos, zeroCells_get ha hj]
            · simpa using hv
            · rw [size_zeroCells]
              have : (a + 1) * z.cells.size ≤ N * z.cells.size := Nat.mul_le_mul_right _ ha
              rw [Nat.add_mul, Nat.one_mul] at this
              omega)
        exact ⟨_, F, X, m2, Ext.drew.trans e2, by simp [VR, V0, V1, hdr, updL]⟩
      · cases h
    · cases h
  · cases h

theorem zrep' {zs : List P1} {z : List C} (hz : rowC (fun _ => .un) zs = some z) : zs.length = z.length ∧ ∀ (j : Nat) (x : C), z[j]? = some x → ∃ p, zs[j]? = some p ∧ toC1 (fun _ => .un) p = some x := by
  induction zs generalizing z with
  | nil => simp [rowC] at hz; subst hz; exact ⟨rfl, fun j x h => by simp at h⟩
  | cons p zs ih =>
    simp only [rowC] at hz
    split at hz
    · rename_i y ys h1 h2
      cases hz
      obtain ⟨k1, k2⟩ := ih h2
      refine ⟨by simp [k1], fun j x hj => ?_⟩
      cases j with
      | zero => simp at hj; subst hj; exact ⟨p, rfl, h1⟩
      | succ j => exact k2 j x (by simpa using hj)
    · cases hz
theorem nil_rep' {v : Value} {p : P1} {x : C} (hx : toC1 (fun _ => .un) p = some x) (hv : V1 g F w mem v p) : RepC F w v x := by
  cases p with
  | c y => simp [toC1] at hx; subst hx; exact hv
  | nil => simp [toC1] at hx; subst hx; rw [show v = .slice none 0 0 from hv]; exact RepC.nil _ _
  | _ => simp [toC1] at hx

theorem cutF_ok {t : TypeId} {x r : PV} {lo hi : Option PV} {φ : Prop} {us : List (Nat × Blk)} {nid nid' : Nat} {vx : Value} {vlo vhi : Option Value} (m : MR g F X w mem)
    (h : cutF (slt P t) mem nid x lo hi = some (φ, r, us, nid')) (hφ : φ) (hx : VR g F w mem vx x) (hf : mem nid = .un)
    (hlo : lo = none → vlo = none) (hhi : ∀ p, hi = some p → ∃ v, vhi = some v ∧ VR g F w mem v p) (hhi' : hi = none → vhi = none) :
    ∃ u, (Instr.sliceAt t vx vlo vhi none).run P w = .ok u w ∧ Does g F X w mem r (updL mem us) u w := by
  unfold cutF at h
  split at h
  · rename_i id
    split at h
    · rename_i sz' n zs hm
      split at h
      · rename_i hh sz by_ z hb hst hz
        split at h
        · rename_i hs
          subst hs
          simp only [Option.some.injEq, Prod.mk.injEq] at h
          obtain ⟨rfl, rfl, rfl, rfl⟩ := h
          obtain ⟨h0, h1⟩ := hφ
          rw [hlo rfl]
          have hx' : V1 g F w mem vx (.ms id) := hx
          simp only [V1, hm] at hx'
          have hblk := m.blk id
          rw [hm] at hblk
          obtain ⟨k0, k1, k2, cells, tt, k3, k4, k5⟩ := hblk
          have hx2 : vx = .slice (some ⟨(g id).blk, (g id).off, none⟩) n (g id).cap := by rw [hx']; simp [hdr, k1]
          subst hx2
          obtain ⟨z1, z2⟩ := zrep' hz
          have hrun := run_slice_bnd (P := P) (g := g) (F := F) (w := w) (mem := mem) (slt_ok hst) (some ⟨(g id).blk, (g id).off, none⟩) n (g id).cap none hi none vhi 0 hh rfl hb (Int.le_refl _) h0 h1 k2
            (fun p hp => by cases hp) (fun _ => rfl) hhi hhi'
          have hrow : ∀ q : Nat, ∀ r ∈ List.replicate q z, r.length = sz' := fun q r hr => by rw [List.eq_of_mem_replicate hr]; omega
          obtain ⟨m1, e1⟩ := m.put (id := id) (b := .arr sz' (List.replicate n z)) (w' := w) (by simp [owns, hm]) (by rw [hm]; simp [Goes]) (by simp [owns, k1]) ⟨rfl, rfl, rfl, rfl⟩ (fun _ _ => rfl) (fun mem' e hgo => by
            refine ⟨hrow n, .inr ⟨k1, by simpa using k2, cells, tt, k3, k4, fun i j r x hr hx => ?_⟩⟩
            have hi : i < n := by have := (List.getElem?_eq_some_iff.1 hr).1; simpa using this
            have er := List.eq_of_mem_replicate (List.mem_of_getElem? hr)
            subst er
            obtain ⟨p, hp, hpx⟩ := z2 j x hx
            obtain ⟨v, hv, h6⟩ := k5 i j p hi hp
            exact ⟨v, hv, nil_rep' hpx h6⟩)
          have hne : nid ≠ id := fun e => by subst e; rw [hf] at hm; cases hm
          have hblk1 := m1.blk id
          rw [upd_same] at hblk1
          obtain ⟨m2, e2⟩ := m1.rename (id := id) (nid := nid) (b := .arr sz' (List.replicate hh.toNat z)) (q := g id) (w' := w) (by rw [upd_same]) (by rw [upd_ne _ _ hne]; exact hf) rfl rfl ⟨_, _, rfl⟩ ⟨rfl, rfl, rfl, rfl⟩ (fun _ _ => rfl)
            (fun mem' => by
              refine ⟨hrow _, .inr ⟨by rw [upd_same]; exact k1, by rw [upd_same]; simp; omega, cells, tt, by rw [upd_same]; exact k3, by rw [upd_same]; exact k4, fun i j r x hr hx => ?_⟩⟩
              have hi : i < hh.toNat := by have := (List.getElem?_eq_some_iff.1 hr).1; simpa using this
              have er := List.eq_of_mem_replicate (List.mem_of_getElem? hr)
              subst er
              obtain ⟨p, hp, hpx⟩ := z2 j x hx
              obtain ⟨v, hv, h6⟩ := k5 i j p (by omega) hp
              rw [upd_same]
              exact ⟨v, hv, nil_rep' hpx h6⟩)
          have hmem : upd (upd (upd mem id (.arr sz' (List.replicate n z))) id .dead) nid (.arr sz' (List.replicate hh.toNat z)) = upd (upd mem id .dead) nid (.arr sz' (List.replicate hh.toNat z)) := by
            congr 1
            funext j; by_cases h : j = id <;> simp [upd, h]
          rw [hmem] at m2 e2
          refine ⟨_, hrun, _, F, X, m2, e1.trans e2, ?_⟩
          show V1 _ F w _ _ (.ms nid)
          simp [V1, hdr, updL, k1, Addr.add]
        · cases h
      · cases h
    · cases h
  · cases h

end Go.Proofs.K
