/- What the functions compute, in plain Lean. -/
import Derived.Test.YtbaekjnfijmakaaGreatDoorKc
import Derived.IntWalk
import Derived.Sort.Grow
import Derived.Sort.EncStr
import Derived.Lib.SlicesCompact
set_option linter.unnecessarySimpa false
set_option linter.unusedSimpArgs false
set_option linter.unusedVariables false
set_option maxRecDepth 20000
/- What the functions compute, told in plain Lean. -/
namespace Go.Proofs.K
open Go Go.Proofs Go.IntWalk
/-! A1 -/

/-- A length that fits. -/
@[reducible] def Fit (n : Nat) : Prop := n < 4294967296

theorem wrapN (k : Nat) (h : k < 4294967296) : IntKind.i64.wrap (↑k + 1) = ((k + 1 : Nat) : Int) := by rw [i64_in _ (by omega)]; simp

structure Param where
  name : ByteArray
  kind : Int
  hasDefault : Bool
  dflt : Int
  deriving Inhabited

@[reducible] def Param.c (p : Param) : List C := [.str p.name, .int .i64 p.kind, .bool p.hasDefault, .int .i64 p.dflt]

def inR (a b c : Int) : Bool := decide (b ≤ a) && decide (a ≤ c)

def lowAt (s : ByteArray) (k : Nat) : Bool := decide (97 ≤ bt s k) && decide (bt s k ≤ 122)

def nameOk (s : ByteArray) : Bool := (List.range s.size).all (lowAt s) && inR s.size 1 6

theorem nameOk_no {s : ByteArray} {k : Nat} (h : k < s.size) (hl : lowAt s k = false) : nameOk s = false := by
  unfold nameOk
  have : (List.range s.size).all (lowAt s) = false := by
    rw [List.all_eq_false]
    exact ⟨k, by simpa using h, by simp [hl]⟩
  simp [this]

theorem nameOk_yes {s : ByteArray} (h : ∀ k, k < s.size → lowAt s k = true) : nameOk s = inR s.size 1 6 := by
  unfold nameOk
  have : (List.range s.size).all (lowAt s) = true := by
    rw [List.all_eq_true]
    intro k hk; exact h k (by simpa using hk)
  simp [this]

/-! A2 -/

@[reducible] def Param.v (p : Param) : PV := .agg [.c (.str p.name), .c (.int .i64 p.kind), .c (.bool p.hasDefault), .c (.int .i64 p.dflt)]

@[reducible] def vps (ps : List Param) : PV := vl (ps.map Param.c)

@[reducible] def vsig (ps : List Param) : PV := .agg [.c (.lst (ps.map Param.c))]

def Param.placed (p : Param) : Bool := p.kind == 0 || p.kind == 1

def Param.named (p : Param) : Bool := p.kind == 1 || p.kind == 3

def Param.single (p : Param) : Bool := p.placed || p.kind == 3

/-- Where the first stands that fits. -/
def idxOf {α : Type} (q : α → Bool) (l : List α) : Int := match l.findIdx? q with
  | some i => i
  | none => -1

theorem idxOf_hit {α : Type} {q : α → Bool} {l : List α} {k : Nat} (hk : k < l.length) (hq : q l[k] = true) (hn : ∀ j (h : j < l.length), j < k → q l[j] = false) : idxOf q l = k := by
  unfold idxOf
  have : l.findIdx? q = some k := by
    rw [List.findIdx?_eq_some_iff_getElem]
    exact ⟨hk, hq, fun j hj => by simp [hn j (by omega) hj]⟩
  rw [this]

theorem idxOf_none {α : Type} {q : α → Bool} {l : List α} (hn : ∀ j (h : j < l.length), q l[j] = false) : idxOf q l = -1 := by
  unfold idxOf
  have : l.findIdx? q = none := by
    rw [List.findIdx?_eq_none_iff]
    intro x hx
    obtain ⟨i, hi, rfl⟩ := List.getElem_of_mem hx
    exact hn i hi
  rw [this]

def cnt {α : Type} (q : α → Bool) (l : List α) : Nat := (l.filter q).length

theorem cnt_take {α : Type} {q : α → Bool} {l : List α} {k : Nat} (hk : k < l.length) : cnt q (l.take (k + 1)) = cnt q (l.take k) + (if q l[k] then 1 else 0) := by
  unfold cnt
  rw [List.take_add_one, List.getElem?_eq_getElem hk]
  simp only [Option.toList, List.filter_append, List.length_append]
  by_cases h : q l[k] <;> simp [h]

theorem cnt_le {α : Type} {q : α → Bool} {l : List α} : cnt q l ≤ l.length := List.length_filter_le _ _

/-! A3 -/

def Param.ok (p : Param) : Bool := nameOk p.name && inR p.kind 0 4 && inR p.dflt (-99) 99 && (p.hasDefault || p.dflt == 0) && (p.single || !p.hasDefault)

/-- What spec asks of a parameter and of those ahead of it. -/
def badAt (ps : List Param) (i : Nat) (p : Param) : Bool :=
  !p.ok || decide (0 ≤ idxOf (fun q => decide (q.name = p.name)) (ps.take i))

def badBy (last p : Param) : Bool :=
  decide (p.kind < last.kind) || (p.kind == last.kind && !p.single) || (p.placed && last.hasDefault && !p.hasDefault)

def goodAt (ps : List Param) (i : Nat) (p : Param) : Bool := !badAt ps i p && (match i with
  | 0 => true
  | j + 1 => match ps[j]? with
    | some l => !badBy l p
    | none => true)

def sigOk (ps : List Param) : Bool := ((List.range ps.length).all fun i => match ps[i]? with
  | some p => goodAt ps i p
  | none => true) && decide (ps.length ≤ 8)

theorem sigOk_no {ps : List Param} {k : Nat} (h : k < ps.length) (hb : goodAt ps k ps[k] = false) : sigOk ps = false := by
  unfold sigOk
  have : ((List.range ps.length).all fun i => match ps[i]? with
    | some p => goodAt ps i p
    | none => true) = false := by
    rw [List.all_eq_false]
    exact ⟨k, by simpa using h, by simp [h, hb]⟩
  rw [this]; rfl

theorem sigOk_yes {ps : List Param} (hg : ∀ k (h : k < ps.length), goodAt ps k ps[k] = true) : sigOk ps = decide (ps.length ≤ 8) := by
  unfold sigOk
  have : ((List.range ps.length).all fun i => match ps[i]? with
    | some p => goodAt ps i p
    | none => true) = true := by
    rw [List.all_eq_true]
    intro k hk
    have h : k < ps.length := by simpa using hk
    simp [h, hg k h]
  rw [this]; simp

/-! A4 -/

/-- A signature whose lengths fit. -/
structure SFit (ps : List Param) : Prop where
  len : Fit ps.length
  names : ∀ p ∈ ps, Fit p.name.size

/-- Which parameter takes a name. -/
def takesBy (ps : List Param) (s : ByteArray) : Int :=
  let k := idxOf (fun p => decide (p.name = s)) ps
  if 0 ≤ k && (ps.getD k.toNat default).named then k else idxOf (fun p => p.kind == 4) ps

theorem idxOf_lt {α : Type} {q : α → Bool} {l : List α} : -1 ≤ idxOf q l ∧ idxOf q l < l.length := by
  unfold idxOf
  split
  · rename_i i h
    rw [List.findIdx?_eq_some_iff_getElem] at h
    obtain ⟨h1, _⟩ := h
    omega
  · omega

theorem idxOf_nat {α : Type} {q : α → Bool} {l : List α} (h : 0 ≤ idxOf q l) : ∃ (k : Nat), idxOf q l = k ∧ ∃ hk : k < l.length, q l[k] = true ∧ ∀ j (hj : j < l.length), j < k → q l[j] = false := by
  unfold idxOf at h ⊢
  split at h
  · rename_i i hi
    rw [List.findIdx?_eq_some_iff_getElem] at hi
    obtain ⟨h1, h2, h3⟩ := hi
    exact ⟨i, rfl, h1, h2, fun j hj hji => by have := h3 j hji; simpa using this⟩
  · omega

@[reducible] def tx (s : ByteArray) : List C := [.str s]

@[reducible] def vtx (l : List ByteArray) : PV := vl (l.map tx)

/-- A text put in its place, once. -/
def insAt (out : List ByteArray) (x : ByteArray) : Nat := (out.takeWhile fun y => sls y x).length

def insT (out : List ByteArray) (x : ByteArray) : List ByteArray :=
  if out[insAt out x]? = some x then out else out.take (insAt out x) ++ x :: out.drop (insAt out x)

def sortT (l : List ByteArray) : List ByteArray := l.foldl insT []

theorem insAt_is {out : List ByteArray} {x : ByteArray} {k : Nat} (hk : k ≤ out.length) (h1 : ∀ j (h : j < out.length), j < k → sls out[j] x = true) (h2 : ∀ h : k < out.length, sls out[k] x = false) : insAt out x = k := by
  unfold insAt
  induction out generalizing k with
  | nil => simp at hk; subst hk; rfl
  | cons y out ih =>
    cases k with
    | zero => simp at h2; simp [h2]
    | succ k =>
      have := h1 0 (by simp) (by omega)
      simp at this
      simp only [List.takeWhile_cons, this, if_true, List.length_cons]
      rw [ih (k := k) (by simpa using hk) (fun j hj hjk => h1 (j + 1) (by simpa using hj) (by omega)) (fun hj => h2 (by simpa using hj))]

theorem insT_len (out : List ByteArray) (x : ByteArray) : (insT out x).length ≤ out.length + 1 := by
  unfold insT
  split
  · omega
  · simp; omega

theorem sortT_take {l : List ByteArray} {k : Nat} (hk : k < l.length) : sortT (l.take (k + 1)) = insT (sortT (l.take k)) l[k] := by
  unfold sortT
  rw [List.take_add_one, List.getElem?_eq_getElem hk, List.foldl_append]
  rfl

theorem sortT_len : ∀ (l : List ByteArray), (sortT l).length ≤ l.length := by
  have : ∀ (l acc : List ByteArray), (l.foldl insT acc).length ≤ acc.length + l.length := by
    intro l
    induction l with
    | nil => intro acc; simp
    | cons x l ih => intro acc; simp only [List.foldl_cons, List.length_cons]; have := ih (insT acc x); have := insT_len acc x; omega
  intro l; simpa [sortT] using this l []

theorem tx_take {l : List ByteArray} {k : Nat} : ∀ r ∈ List.take k (l.map tx), r.length = 1 := fun r hr => by
  have := List.mem_of_mem_take hr
  simp only [List.mem_map] at this
  obtain ⟨x, _, rfl⟩ := this
  rfl

theorem tx_all {l : List ByteArray} : ∀ r ∈ l.map tx, r.length = 1 := fun r hr => by
  simp only [List.mem_map] at hr
  obtain ⟨x, _, rfl⟩ := hr
  rfl

theorem tx_drop {l : List ByteArray} {k : Nat} : ∀ r ∈ List.drop k (l.map tx), r.length = 1 := fun r hr => tx_all r (List.mem_of_mem_drop hr)

/-! A5 -/

theorem drop_all {α : Type} (q : α → Bool) (l : List α) (k : Nat) (h : k < l.length) : (l.drop k).all q = (q l[k] && (l.drop (k + 1)).all q) := by
  rw [List.drop_eq_getElem_cons h]; rfl

theorem drop_end {α : Type} (q : α → Bool) (l : List α) (k : Nat) (h : ¬ k < l.length) : (l.drop k).all q = true := by
  rw [List.drop_of_length_le (by omega)]; rfl

/-- May so many values come by place? -/
def takesN (ps : List Param) (n : Nat) : Bool :=
  !(decide (cnt Param.placed ps < n) && decide (idxOf (fun p => p.kind == 2) ps < 0)) && (ps.drop n).all fun p => !(p.kind == 0 && !p.hasDefault)

/-- The names that are needed. -/
def Param.opn (p : Param) (i n : Int) : Bool := p.kind == 3 || p.kind == 1 && decide (n ≤ i)

def needL (n : Int) : Nat → List Param → List ByteArray
  | _, [] => []
  | i, p :: ps => if p.opn i n && !p.hasDefault then p.name :: needL n (i + 1) ps else needL n (i + 1) ps

theorem needL_len (n : Int) : ∀ (ps : List Param) (i : Nat), (needL n i ps).length ≤ ps.length
  | [], i => by simp [needL]
  | p :: ps, i => by
    have := needL_len n ps (i + 1)
    simp only [needL]
    split <;> simp <;> omega

theorem needL_step (n : Int) (ps : List Param) (k : Nat) (h : k < ps.length) :
    needL n k (ps.drop k) = if ps[k].opn k n && !ps[k].hasDefault then ps[k].name :: needL n (k + 1) (ps.drop (k + 1)) else needL n (k + 1) (ps.drop (k + 1)) := by
  rw [List.drop_eq_getElem_cons h]; rfl

structure Pair where
  name : ByteArray
  value : Int
  deriving Inhabited

@[reducible] def Pair.c (p : Pair) : List C := [.str p.name, .int .i64 p.value]

@[reducible] def ix (n : Int) : List C := [.int .i64 n]

structure Flat where
  places : List Int
  names : List Pair
  deriving Inhabited

@[reducible] def vflat (f : Flat) : PV := .agg [.c (.lst (f.places.map ix)), .c (.lst (f.names.map Pair.c))]

/-! A6 -/

structure Slot where
  given : Bool
  list : List Int
  pairs : List Pair
  deriving Inhabited

@[reducible] def Slot.c (s : Slot) : List C := [.bool s.given, .lst (s.list.map ix), .lst (s.pairs.map Pair.c)]

structure Problem where
  kind : Int
  name : ByteArray
  deriving Inhabited

@[reducible] def Problem.c (p : Problem) : List C := [.int .i64 p.kind, .str p.name]

structure FFit (f : Flat) : Prop where
  places : Fit f.places.length
  names : Fit f.names.length

/-- Where the rest stands, or behind all. -/
def natOr (k : Int) (n : Nat) : Nat := if 0 ≤ k then k.toNat else n

/-- The slots when so many values by place have been given out (the rest's list and the map's pairs are told apart). -/
def slotA (pl : List Int) (pc i k : Nat) : Slot := if k < pc ∧ k < i then ⟨true, [pl.getD k 0], []⟩ else ⟨false, [], []⟩

def slotsA (n : Nat) (pl : List Int) (pc i : Nat) : List Slot := (List.range n).map (slotA pl pc i)

def restA (pl : List Int) (pc : Nat) (r : Int) (i : Nat) : List Int := if 0 ≤ r then (pl.take i).drop pc else []

theorem slotsA_zero (n : Nat) (pl : List Int) (pc : Nat) : (slotsA n pl pc 0).map Slot.c = List.replicate n [.bool false, .lst [], .lst []] := by
  apply List.ext_getElem
  · simp [slotsA]
  · intro j h1 h2
    simp [slotsA, slotA]

@[simp] theorem natOr_nat (k n : Nat) : natOr (k : Int) n = k := by simp [natOr]

theorem slotsA_set {n i pc : Nat} {pl : List Int} (hi : i < n) (hip : i < pc) (hil : i < pl.length) :
    ((slotsA n pl pc i).map Slot.c).set i [C.bool true, C.lst [[C.int IntKind.i64 pl[i]]], C.lst []] = (slotsA n pl pc (i + 1)).map Slot.c := by
  apply List.ext_getElem
  · simp [slotsA]
  · intro j h1 h2
    rw [List.getElem_set]
    by_cases e : i = j
    · subst e; simp [slotsA, slotA, hip, hil]
    · rw [if_neg e]
      have : j < i + 1 ↔ j < i := by omega
      simp [slotsA, slotA, this]

theorem slotsA_ge {n i pc : Nat} {pl : List Int} (hip : ¬ i < pc) : slotsA n pl pc (i + 1) = slotsA n pl pc i := by
  unfold slotsA
  congr 1
  funext k
  have : (k < pc ∧ k < i + 1) ↔ (k < pc ∧ k < i) := by omega
  simp only [slotA, this]

theorem restA_lt {pl : List Int} {pc i : Nat} {r : Int} (h : i < pc) : restA pl pc r (i + 1) = restA pl pc r i := by
  unfold restA
  split
  · rw [List.drop_of_length_le (by simp; omega), List.drop_of_length_le (by simp; omega)]
  · rfl

theorem restA_neg {pl : List Int} {pc i : Nat} {r : Int} (h : ¬ 0 ≤ r) : restA pl pc r i = [] := by
  unfold restA; rw [if_neg h]

theorem restA_ge {pl : List Int} {pc i k : Nat} (h : ¬ i < pc) (hil : i < pl.length) : restA pl pc k (i + 1) = restA pl pc k i ++ [pl[i]] := by
  unfold restA
  rw [if_pos (by omega), if_pos (by omega), List.take_add_one, List.getElem?_eq_getElem hil, List.drop_append_of_le_length (by simp; omega)]
  rfl

theorem restA_len {pl : List Int} {pc i : Nat} {r : Int} : (restA pl pc r i).length ≤ pl.length := by
  unfold restA
  split
  · simp; omega
  · simp

structure NameS where
  slots : List Slot
  pairs : List Pair
  bad : List Problem

def nameStep (ps : List Param) (s : NameS) (p : Pair) : NameS :=
  if takesBy ps p.name < 0 then { s with bad := s.bad ++ [⟨1, p.name⟩] }
  else if (ps.getD (takesBy ps p.name).toNat default).kind == 4 then { s with pairs := s.pairs ++ [p] }
  else if (s.slots.getD (takesBy ps p.name).toNat default).given then { s with bad := s.bad ++ [⟨2, p.name⟩] }
  else { s with slots := s.slots.set (takesBy ps p.name).toNat ⟨true, [p.value], []⟩ }

def nameS (ps : List Param) (sl : List Slot) (bad : List Problem) (l : List Pair) : NameS := l.foldl (nameStep ps) ⟨sl, [], bad⟩

def bad0 (ps : List Param) (f : Flat) : List Problem := if (decide (cnt Param.placed ps < f.places.length) && decide (idxOf (fun p => p.kind == 2) ps < 0)) = true then [⟨0, ⟨#[]⟩⟩] else []

theorem takesBy_nat {ps : List Param} {s : ByteArray} (h : 0 ≤ takesBy ps s) :
    ∃ k : Nat, takesBy ps s = k ∧ ∃ hk : k < ps.length, ps[k].named = true ∨ (idxOf (fun p => p.kind == 4) ps = k ∧ ps[k].kind = 4) := by
  unfold takesBy at h ⊢
  simp only at h ⊢
  split at h
  · rename_i hc
    rw [if_pos hc]
    simp only [Bool.and_eq_true, decide_eq_true_eq] at hc
    obtain ⟨k, hk, hkl, _⟩ := idxOf_nat hc.1
    refine ⟨k, hk, hkl, .inl ?_⟩
    have := hc.2
    rw [hk] at this
    simpa [List.getD, hkl] using this
  · rename_i hc
    rw [if_neg hc]
    obtain ⟨k, hk, hkl, h4, _⟩ := idxOf_nat h
    exact ⟨k, hk, hkl, .inr ⟨hk, by simpa using h4⟩⟩

theorem nameS_step {ps : List Param} {sl : List Slot} {b : List Problem} {l : List Pair} {i : Nat} (h : i < l.length) : nameS ps sl b (l.take (i + 1)) = nameStep ps (nameS ps sl b (l.take i)) l[i] := by
  unfold nameS
  rw [List.take_add_one, List.getElem?_eq_getElem h, List.foldl_append]
  rfl

theorem nameS_len (ps : List Param) (sl : List Slot) (b : List Problem) : ∀ (l : List Pair), (nameS ps sl b l).slots.length = sl.length ∧ (nameS ps sl b l).pairs.length ≤ l.length ∧ (nameS ps sl b l).bad.length ≤ b.length + l.length := by
  have : ∀ (l : List Pair) (s : NameS), (l.foldl (nameStep ps) s).slots.length = s.slots.length ∧ (l.foldl (nameStep ps) s).pairs.length ≤ s.pairs.length + l.length ∧ (l.foldl (nameStep ps) s).bad.length ≤ s.bad.length + l.length := by
    intro l
    induction l with
    | nil => intro s; simp
    | cons p l ih =>
      intro s
      simp only [List.foldl_cons, List.length_cons]
      obtain ⟨h1, h2, h3⟩ := ih (nameStep ps s p)
      have hs : (nameStep ps s p).slots.length = s.slots.length ∧ (nameStep ps s p).pairs.length ≤ s.pairs.length + 1 ∧ (nameStep ps s p).bad.length ≤ s.bad.length + 1 := by
        unfold nameStep
        split
        · simp
        · split
          · simp
          · split <;> simp
      omega
  intro l
  have := this l ⟨sl, [], b⟩
  simpa [nameS] using this

theorem setC_list {l : List Slot} {i : Nat} {x : List Int} : setC (l.map Slot.c) i 1 (.lst (x.map ix)) = (l.modify i fun s => { s with list := x }).map Slot.c := by
  unfold setC
  apply List.ext_getElem
  · simp
  · intro j h1 h2
    have hj : j < l.length := by simpa using h1
    rw [List.getElem_set]
    by_cases e : i = j
    · subst e; simp [List.getD, hj, List.getElem_modify]
    · simp [e, List.getElem_modify]

theorem setC_pairs {l : List Slot} {i : Nat} {x : List Pair} : setC (l.map Slot.c) i 2 (.lst (x.map Pair.c)) = (l.modify i fun s => { s with pairs := x }).map Slot.c := by
  unfold setC
  apply List.ext_getElem
  · simp
  · intro j h1 h2
    have hj : j < l.length := by simpa using h1
    rw [List.getElem_set]
    by_cases e : i = j
    · subst e; simp [List.getD, hj, List.getElem_modify]
    · simp [e, List.getElem_modify]

/-- What all parameters get by spec's bound. -/
def boundS (ps : List Param) (f : Flat) : NameS := nameS ps (slotsA ps.length f.places (cnt Param.placed ps) f.places.length) (bad0 ps f) f.names

def boundSlots (ps : List Param) (f : Flat) : List Slot :=
  ((boundS ps f).slots.modify (natOr (idxOf (fun p => p.kind == 2) ps) ps.length) fun s => { s with list := restA f.places (cnt Param.placed ps) (idxOf (fun p => p.kind == 2) ps) f.places.length }).modify
    (natOr (idxOf (fun p => p.kind == 4) ps) ps.length) fun s => { s with pairs := (boundS ps f).pairs }

/-! A9 -/

theorem sigOk_at {ps : List Param} (h : sigOk ps = true) : (∀ i (hi : i < ps.length), goodAt ps i ps[i] = true) ∧ ps.length ≤ 8 := by
  unfold sigOk at h
  rw [Bool.and_eq_true] at h
  obtain ⟨h1, h2⟩ := h
  refine ⟨fun i hi => ?_, by simpa using h2⟩
  rw [List.all_eq_true] at h1
  have := h1 i (by simpa using hi)
  simpa [hi] using this

theorem sigOk_ok {ps : List Param} (h : sigOk ps = true) (i : Nat) (hi : i < ps.length) : ps[i].ok = true := by
  have := (sigOk_at h).1 i hi
  unfold goodAt badAt at this
  simp only [Bool.and_eq_true, Bool.not_eq_true', Bool.or_eq_false_iff, Bool.not_eq_false'] at this
  exact this.1.1

theorem sigOk_next {ps : List Param} (h : sigOk ps = true) (i : Nat) (hi : i + 1 < ps.length) : ps[i].kind ≤ ps[i + 1].kind := by
  have := (sigOk_at h).1 (i + 1) hi
  have hi' : i < ps.length := by omega
  unfold goodAt badBy at this
  simp only [hi', List.getElem?_eq_getElem, Bool.and_eq_true, Bool.not_eq_true', Bool.or_eq_false_iff, decide_eq_false_iff_not] at this
  omega

theorem sigOk_mono {ps : List Param} (h : sigOk ps = true) : ∀ (i j : Nat) (hj : j < ps.length) (hij : i ≤ j), ps[i].kind ≤ ps[j].kind := by
  intro i j
  induction j with
  | zero => intro hj hij; have : i = 0 := by omega
            subst this; exact Int.le_refl _
  | succ j ih =>
    intro hj hij
    by_cases e : i = j + 1
    · subst e; exact Int.le_refl _
    · exact Int.le_trans (ih (by omega) (by omega)) (sigOk_next h j hj)

theorem cnt_drop {α : Type} {q : α → Bool} {l : List α} {k : Nat} (h : ∀ j (hj : j < l.length), k ≤ j → q l[j] = false) : cnt q l ≤ k := by
  have : cnt q l = cnt q (l.take k) + cnt q (l.drop k) := by
    unfold cnt
    rw [← List.length_append, ← List.filter_append, List.take_append_drop]
  have h0 : cnt q (l.drop k) = 0 := by
    unfold cnt
    rw [List.length_eq_zero_iff, List.filter_eq_nil_iff]
    intro x hx
    obtain ⟨j, hj, rfl⟩ := List.getElem_of_mem hx
    simp only [List.getElem_drop]
    rw [h (k + j) (by simp at hj; omega) (by omega)]
    simp
  have h1 : cnt q (l.take k) ≤ (l.take k).length := cnt_le
  simp only [List.length_take] at h1
  omega

theorem placed_first {ps : List Param} (h : sigOk ps = true) : ∀ i (hi : i < ps.length), i < cnt Param.placed ps → ps[i].placed = true := by
  intro i hi hlt
  cases hq : ps[i].placed with
  | true => rfl
  | false =>
    exfalso
    have := cnt_drop (q := Param.placed) (l := ps) (k := i) (fun j hj hij => by
      have hm := sigOk_mono h i j hj hij
      have ho := sigOk_ok h i hi
      simp only [Param.ok, inR, Bool.and_eq_true, decide_eq_true_eq] at ho
      simp only [Param.placed, Bool.or_eq_false_iff, beq_eq_false_iff_ne] at hq ⊢
      omega)
    omega

/-! A7 -/

/-- Is a name allowed with so many values by place? -/
def allowsN (ps : List Param) (n : Int) (s : ByteArray) : Bool :=
  decide (0 ≤ takesBy ps s) && ((ps.getD (takesBy ps s).toNat default).kind == 4 || (ps.getD (takesBy ps s).toNat default).opn (takesBy ps s) n)

@[reducible] def vbind (sl : List Slot) : PV := .agg [.c (.lst (sl.map Slot.c))]

def missStep (sl : List Slot) (i : Nat) (p : Param) : List Problem := if p.single && !p.hasDefault && !(sl.getD i default).given then [⟨3, p.name⟩] else []

def missL (sl : List Slot) : Nat → List Param → List Problem
  | _, [] => []
  | i, p :: ps => missStep sl i p ++ missL sl (i + 1) ps

theorem missL_step (sl : List Slot) (ps : List Param) (k : Nat) (h : k < ps.length) : missL sl k (ps.drop k) = missStep sl k ps[k] ++ missL sl (k + 1) (ps.drop (k + 1)) := by
  rw [List.drop_eq_getElem_cons h]; rfl

/-! A8 -/

def problemsS (ps : List Param) (f : Flat) : List Problem := (boundS ps f).bad ++ missL (boundSlots ps f) 0 ps

theorem boundSlots_len (ps : List Param) (f : Flat) : (boundSlots ps f).length = ps.length := by
  unfold boundSlots boundS
  simp [(nameS_len ps _ _ _).1, slotsA]

theorem missL_len (sl : List Slot) : ∀ (ps : List Param) (i : Nat), (missL sl i ps).length ≤ ps.length
  | [], i => by simp [missL]
  | p :: ps, i => by
    have := missL_len sl ps (i + 1)
    simp only [missL, List.length_append, List.length_cons, missStep]
    split <;> simp <;> omega

theorem boundS_bad (ps : List Param) (f : Flat) : (boundS ps f).bad.length ≤ 1 + f.names.length := by
  have h := (nameS_len ps (slotsA ps.length f.places (cnt Param.placed ps) f.places.length) (bad0 ps f) f.names).2.2
  have hb0 : (bad0 ps f).length ≤ 1 := by unfold bad0; split <;> simp
  unfold boundS
  omega

def acceptsS (ps : List Param) (f : Flat) : Bool := (problemsS ps f).length == 0
end Go.Proofs.K
/- When spec accepts a flat call. -/
namespace Go.Proofs.K
open Go Go.Proofs Go.IntWalk

theorem idxOf_nonneg {α : Type} {q : α → Bool} {l : List α} {k : Nat} (hk : k < l.length) (hq : q l[k] = true) : 0 ≤ idxOf q l := by
  unfold idxOf
  cases h : l.findIdx? q with
  | none =>
    rw [List.findIdx?_eq_none_iff] at h
    have := h l[k] (by simp)
    rw [hq] at this; cases this
  | some i => simp

theorem sigOk_names_lt {ps : List Param} (h : sigOk ps = true) (i j : Nat) (hi : i < ps.length) (hji : j < i) : ps[j].name ≠ ps[i].name := by
  have := (sigOk_at h).1 i hi
  unfold goodAt badAt at this
  simp only [Bool.and_eq_true, Bool.not_eq_true', Bool.or_eq_false_iff, decide_eq_false_iff_not] at this
  intro he
  refine this.1.2 (idxOf_nonneg (k := j) (by simp; omega) ?_)
  simpa using he

theorem sigOk_names {ps : List Param} (h : sigOk ps = true) (i j : Nat) (hi : i < ps.length) (hj : j < ps.length) (he : ps[i].name = ps[j].name) : i = j := by
  rcases Nat.lt_trichotomy i j with h1 | h1 | h1
  · exact absurd he (sigOk_names_lt h j i hj h1)
  · exact h1
  · exact absurd he.symm (sigOk_names_lt h i j hi h1)

theorem idxOf_name {ps : List Param} (h : sigOk ps = true) (i : Nat) (hi : i < ps.length) : idxOf (fun p => decide (p.name = ps[i].name)) ps = i :=
  idxOf_hit hi (by simp) fun j hj hji => by simpa using sigOk_names_lt h i j hi hji

theorem takesBy_own {ps : List Param} (h : sigOk ps = true) (i : Nat) (hi : i < ps.length) (hn : ps[i].named = true) : takesBy ps ps[i].name = i := by
  unfold takesBy
  simp only [idxOf_name h i hi]
  rw [if_pos]
  simp [hi, hn]

theorem takesBy_cases {ps : List Param} (s : ByteArray) :
    (∃ k, ∃ hk : k < ps.length, takesBy ps s = k ∧ ps[k].name = s ∧ ps[k].named = true) ∨ takesBy ps s = idxOf (fun p => p.kind == 4) ps := by
  unfold takesBy
  simp only
  split
  · rename_i hc
    simp only [Bool.and_eq_true, decide_eq_true_eq] at hc
    obtain ⟨k, hk, hkl, hq, _⟩ := idxOf_nat hc.1
    left
    refine ⟨k, hkl, hk, by simpa using hq, ?_⟩
    have := hc.2
    rw [hk] at this
    simpa [List.getD, hkl] using this
  · right; rfl

theorem idx4 {ps : List Param} (h : 0 ≤ idxOf (fun p : Param => p.kind == 4) ps) : ∃ k, ∃ hk : k < ps.length, idxOf (fun p : Param => p.kind == 4) ps = k ∧ ps[k].kind = 4 := by
  obtain ⟨k, hk, hkl, hq, _⟩ := idxOf_nat h
  exact ⟨k, hkl, hk, by simpa using hq⟩

theorem cnt_ge {α : Type} {q : α → Bool} {l : List α} {k : Nat} (hk : k ≤ l.length) (h : ∀ j (hj : j < l.length), j < k → q l[j] = true) : k ≤ cnt q l := by
  have : cnt q l = cnt q (l.take k) + cnt q (l.drop k) := by
    unfold cnt
    rw [← List.length_append, ← List.filter_append, List.take_append_drop]
  have h0 : cnt q (l.take k) = k := by
    unfold cnt
    rw [List.filter_eq_self.2]
    · simp; omega
    · intro x hx
      obtain ⟨j, hj, rfl⟩ := List.getElem_of_mem hx
      simp only [List.getElem_take]
      simp at hj
      exact h j (by omega) (by omega)
  omega

theorem placed_lt {ps : List Param} (h : sigOk ps = true) (i : Nat) (hi : i < ps.length) (hp : ps[i].placed = true) : i < cnt Param.placed ps := by
  have := cnt_ge (q := Param.placed) (l := ps) (k := i + 1) hi (fun j hj hji => by
    have hm := sigOk_mono h j i hi (by omega)
    have ho := sigOk_ok h j hj
    simp only [Param.ok, inR, Bool.and_eq_true, decide_eq_true_eq] at ho
    simp only [Param.placed, Bool.or_eq_true, beq_iff_eq] at hp ⊢
    omega)
  omega

/-! ### The fold over the names -/
def tk (ps : List Param) (p : Pair) : Nat := (takesBy ps p.name).toNat
def kd (ps : List Param) (k : Nat) : Int := (ps.getD k default).kind
def okP (ps : List Param) (G : Nat → Bool) (p : Pair) : Bool := decide (0 ≤ takesBy ps p.name) && (kd ps (tk ps p) == 4 || !G (tk ps p))

theorem nameStep_len (ps : List Param) (s : NameS) (p : Pair) : (nameStep ps s p).slots.length = s.slots.length := by
  unfold nameStep
  split
  · rfl
  · split
    · rfl
    · split <;> simp
theorem nameStep_bad (ps : List Param) (s : NameS) (p : Pair) : s.bad.length ≤ (nameStep ps s p).bad.length := by
  unfold nameStep
  split
  · simp
  · split
    · simp
    · split <;> simp
theorem fold_bad_le (ps : List Param) : ∀ (l : List Pair) (s : NameS), s.bad.length ≤ (l.foldl (nameStep ps) s).bad.length
  | [], s => Nat.le_refl _
  | p :: l, s => Nat.le_trans (nameStep_bad ps s p) (fold_bad_le ps l _)

theorem nameStep_given (ps : List Param) (s : NameS) (p : Pair) (k : Nat) (hk : k < s.slots.length) :
    ((nameStep ps s p).slots.getD k default).given = ((s.slots.getD k default).given || (decide (0 ≤ takesBy ps p.name) && (decide (tk ps p = k) && !(kd ps k == 4)))) := by
  unfold nameStep
  split
  · rename_i h0
    have : decide (0 ≤ takesBy ps p.name) = false := by simpa using h0
    simp [this]
  · rename_i h0
    have h0' : decide (0 ≤ takesBy ps p.name) = true := by simpa using h0
    split
    · rename_i h4
      by_cases e : tk ps p = k
      · have h5 : (kd ps k == 4) = true := by rw [← e]; exact h4
        simp [h5]
      · simp [e]
    · rename_i h4
      have h4' : (kd ps (tk ps p) == 4) = false := by
        simpa [kd, tk] using h4
      split
      · rename_i hg
        by_cases e : tk ps p = k
        · subst e
          have : (s.slots.getD (tk ps p) default).given = true := hg
          simp only [this, Bool.true_or]
        · simp [e]
      · rename_i hg
        by_cases e : tk ps p = k
        · subst e
          have hk' : (takesBy ps p.name).toNat < s.slots.length := hk
          simp only [h0', h4']
          simp [tk, hk', List.getD]
        · have e' : (takesBy ps p.name).toNat ≠ k := e
          simp [e, e', List.getD, List.getElem?_set]

theorem fold_given (ps : List Param) (k : Nat) : ∀ (l : List Pair) (s : NameS), k < s.slots.length →
    ((l.foldl (nameStep ps) s).slots.getD k default).given = ((s.slots.getD k default).given || l.any fun p => decide (0 ≤ takesBy ps p.name) && (decide (tk ps p = k) && !(kd ps k == 4)))
  | [], s, hk => by simp
  | p :: l, s, hk => by
    rw [List.foldl_cons, fold_given ps k l _ (by rw [nameStep_len]; exact hk), nameStep_given ps s p k hk, List.any_cons, Bool.or_assoc]

theorem fold_bad (ps : List Param) (G : Nat → Bool) : ∀ (l : List Pair) (s : NameS), (l.map Pair.name).Nodup →
    (∀ p ∈ l, 0 ≤ takesBy ps p.name → kd ps (tk ps p) ≠ 4 → tk ps p < s.slots.length ∧ (s.slots.getD (tk ps p) default).given = G (tk ps p)) →
    (∀ p ∈ l, ∀ q ∈ l, 0 ≤ takesBy ps p.name → 0 ≤ takesBy ps q.name → tk ps p = tk ps q → kd ps (tk ps p) ≠ 4 → p.name = q.name) →
    ((l.foldl (nameStep ps) s).bad.length = s.bad.length ↔ l.all (okP ps G) = true)
  | [], s, _, _, _ => by simp
  | p :: l, s, hnd, hG, hinj => by
    rw [List.foldl_cons, List.all_cons]
    have hnd' : (l.map Pair.name).Nodup := (List.nodup_cons.1 hnd).2
    have hpn : p.name ∉ l.map Pair.name := (List.nodup_cons.1 hnd).1
    have ih := fold_bad ps G l (nameStep ps s p) hnd' (fun q hq h0 h4 => by
      obtain ⟨h1, h2⟩ := hG q (by simp [hq]) h0 h4
      refine ⟨by rw [nameStep_len]; exact h1, ?_⟩
      rw [nameStep_given ps s p _ h1, h2]
      have : (decide (0 ≤ takesBy ps p.name) && (decide (tk ps p = tk ps q) && !(kd ps (tk ps q) == 4))) = false := by
        rw [Bool.eq_false_iff]
        intro hc
        simp only [Bool.and_eq_true, decide_eq_true_eq] at hc
        obtain ⟨hc1, hc2, _⟩ := hc
        have := hinj p (by simp) q (by simp [hq]) hc1 h0 hc2 (by rw [hc2]; exact h4)
        exact hpn (by rw [this]; exact List.mem_map_of_mem hq)
      rw [this, Bool.or_false]) (fun a ha b hb => hinj a (by simp [ha]) b (by simp [hb]))
    have hle := fold_bad_le ps l (nameStep ps s p)
    have key : (nameStep ps s p).bad.length = s.bad.length ↔ okP ps G p = true := by
      unfold nameStep okP
      split
      · rename_i h0
        have : decide (0 ≤ takesBy ps p.name) = false := by simpa using h0
        simp [this]
      · rename_i h0
        have h0' : decide (0 ≤ takesBy ps p.name) = true := by simpa using h0
        split
        · rename_i h4
          have h5 : (kd ps (tk ps p) == 4) = true := h4
          simp [h0', h5]
        · rename_i h4
          have h5 : (kd ps (tk ps p) == 4) = false := by simpa [kd, tk] using h4
          obtain ⟨_, h2⟩ := hG p (by simp) (by simpa using h0') (by simpa using h5)
          split
          · rename_i hg
            have : G (tk ps p) = true := by rw [← h2]; exact hg
            simp [h0', h5, this]
          · rename_i hg
            have : G (tk ps p) = false := by rw [← h2]; simpa [tk] using hg
            simp [h0', h5, this]
    have hb := nameStep_bad ps s p
    cases hk : okP ps G p
    · rw [hk] at key
      simp only [Bool.false_and, Bool.false_eq_true, iff_false]
      simp only [Bool.false_eq_true, iff_false] at key
      omega
    · rw [hk] at key
      simp only [iff_true] at key
      rw [key] at ih
      simpa using ih

theorem missL_nil (sl : List Slot) : ∀ (ps : List Param) (j : Nat), missL sl j ps = [] ↔ ∀ i (hi : i < ps.length), (ps[i].single && !ps[i].hasDefault && !(sl.getD (j + i) default).given) = false
  | [], j => by simp [missL]
  | p :: ps, j => by
    simp only [missL, List.append_eq_nil_iff, missL_nil sl ps (j + 1), missStep]
    constructor
    · rintro ⟨h1, h2⟩ i hi
      cases i with
      | zero =>
        rw [Bool.eq_false_iff]
        intro hc
        rw [Nat.add_zero] at hc
        simp only [List.getElem_cons_zero] at hc
        rw [if_pos hc] at h1
        cases h1
      | succ i =>
        have := h2 i (by simpa using hi)
        rw [show j + (i + 1) = j + 1 + i by omega]
        simpa using this
    · intro h
      refine ⟨?_, fun i hi => ?_⟩
      · have := h 0 (by simp)
        simp only [Nat.add_zero, List.getElem_cons_zero] at this
        rw [if_neg (by rw [this]; simp)]
      · have := h (i + 1) (by simpa using hi)
        rw [show j + (i + 1) = j + 1 + i by omega] at this
        simpa using this

theorem mem_needL (n : Int) (nm : ByteArray) : ∀ (ps : List Param) (j : Nat), nm ∈ needL n j ps ↔ ∃ i, ∃ hi : i < ps.length, (ps[i].opn ((j + i : Nat) : Int) n && !ps[i].hasDefault) = true ∧ ps[i].name = nm
  | [], j => by simp [needL]
  | p :: ps, j => by
    have ih := mem_needL n nm ps (j + 1)
    have hr : (∃ i, ∃ hi : i < (p :: ps).length, ((p :: ps)[i].opn ((j + i : Nat) : Int) n && !(p :: ps)[i].hasDefault) = true ∧ (p :: ps)[i].name = nm) ↔
        ((p.opn (j : Int) n && !p.hasDefault) = true ∧ p.name = nm) ∨ nm ∈ needL n (j + 1) ps := by
      rw [ih]
      constructor
      · rintro ⟨i, hi, h1, h2⟩
        cases i with
        | zero => left; exact ⟨by simpa using h1, by simpa using h2⟩
        | succ i => right; exact ⟨i, by simpa using hi, by rw [show j + 1 + i = j + (i + 1) by omega]; simpa using h1, by simpa using h2⟩
      · rintro (⟨h1, h2⟩ | ⟨i, hi, h1, h2⟩)
        · exact ⟨0, by simp, by simpa using h1, by simpa using h2⟩
        · exact ⟨i + 1, by simpa using hi, by rw [show j + (i + 1) = j + 1 + i by omega]; simpa using h1, by simpa using h2⟩
    rw [hr]
    simp only [needL]
    split
    · rename_i hc
      simp [hc, eq_comm]
    · rename_i hc
      simp [hc]

/-- Slot k has got one of the places. -/
theorem slotsA_given {m : Nat} {pl : List Int} {pc i k : Nat} (hk : k < m) : ((slotsA m pl pc i).getD k default).given = decide (k < pc ∧ k < i) := by
  simp only [slotsA, List.getD, List.getElem?_map, List.getElem?_range hk, Option.map_some, Option.getD_some, slotA]
  split <;> simp_all

theorem boundSlots_given (ps : List Param) (f : Flat) (k : Nat) : ((boundSlots ps f).getD k default).given = ((boundS ps f).slots.getD k default).given := by
  unfold boundSlots
  simp only [List.getD, List.getElem?_modify]
  cases (boundS ps f).slots[k]? with
  | none => simp
  | some s => simp only [Option.map_some, Option.getD_some]; split <;> split <;> rfl

theorem named_opn {p : Param} (h : p.named = true) (i n : Int) : p.opn i n = (p.kind == 3 || decide (n ≤ i)) := by
  simp only [Param.named, Bool.or_eq_true, beq_iff_eq] at h
  unfold Param.opn
  rcases h with h | h <;> simp [h]

theorem allows_ok {ps : List Param} (h : sigOk ps = true) (n : Nat) (p : Pair) : okP ps (fun k => decide (k < cnt Param.placed ps ∧ k < n)) p = allowsN ps n p.name := by
  unfold okP allowsN
  cases h0 : decide (0 ≤ takesBy ps p.name)
  · rfl
  · simp only [Bool.true_and]
    have h0' : 0 ≤ takesBy ps p.name := by simpa using h0
    rcases takesBy_cases (ps := ps) p.name with ⟨k, hk, hkt, hkn, hnm⟩ | h4
    · simp only [tk, kd, hkt, Int.toNat_natCast, List.getD, List.getElem?_eq_getElem hk, Option.getD_some]
      rw [named_opn hnm]
      congr 1
      simp only [Param.named, Bool.or_eq_true, beq_iff_eq] at hnm
      by_cases hkc : k < cnt Param.placed ps
      · have := placed_first h k hk hkc
        simp only [Param.placed, Bool.or_eq_true, beq_iff_eq] at this
        have h3 : (ps[k].kind == 3) = false := by simp; omega
        rw [h3, Bool.false_or]
        simp only [hkc, true_and]
        rw [← decide_not, decide_eq_decide]
        omega
      · have h3 : (ps[k].kind == 3) = true := by
          rcases hnm with h1 | h1
          · exact absurd (placed_lt h k hk (by simp [Param.placed, h1])) hkc
          · simp [h1]
        simp [h3, hkc]
    · obtain ⟨k, hk, hkt, hk4⟩ := idx4 (ps := ps) (by rw [← h4]; exact h0')
      rw [hkt] at h4
      simp [tk, kd, h4, hk, hk4, List.getD]

/-- When spec accepts a call whose names come once. -/
theorem accepts_eq {ps : List Param} {f : Flat} (h : sigOk ps = true) (hf : (f.names.map Pair.name).Nodup) :
    acceptsS ps f = (takesN ps f.places.length && (needL f.places.length 0 ps).all (fun nm => f.names.any fun p => decide (p.name = nm)) && f.names.all fun p => allowsN ps f.places.length p.name) := by
  have hslots : (slotsA ps.length f.places (cnt Param.placed ps) f.places.length).length = ps.length := by simp [slotsA]
  have hkind : ∀ p : Pair, 0 ≤ takesBy ps p.name → kd ps (tk ps p) ≠ 4 → ∃ hk : tk ps p < ps.length, ps[tk ps p].name = p.name ∧ ps[tk ps p].named = true ∧ takesBy ps p.name = tk ps p := by
    intro p h0 h4
    rcases takesBy_cases (ps := ps) p.name with ⟨k, hk, hkt, hkn, hnm⟩ | h5
    · have : tk ps p = k := by simp [tk, hkt]
      subst this
      exact ⟨hk, hkn, hnm, hkt⟩
    · obtain ⟨k, hk, hkt, hk4⟩ := idx4 (ps := ps) (by rw [← h5]; exact h0)
      exfalso
      apply h4
      rw [hkt] at h5
      simp [tk, kd, h5, hk, hk4, List.getD]
  have hb := fold_bad ps (fun k => decide (k < cnt Param.placed ps ∧ k < f.places.length)) f.names ⟨slotsA ps.length f.places (cnt Param.placed ps) f.places.length, [], bad0 ps f⟩ hf
    (fun p _ h0 h4 => by
      obtain ⟨hk, _⟩ := hkind p h0 h4
      exact ⟨by simpa [hslots] using hk, slotsA_given hk⟩)
    (fun p _ q _ h0 h0' he h4 => by
      obtain ⟨hk, h1, _⟩ := hkind p h0 h4
      obtain ⟨hk', h1', _⟩ := hkind q h0' (by rw [← he]; exact h4)
      rw [← h1, ← h1']
      simp only [he])
  have hall : f.names.all (okP ps fun k => decide (k < cnt Param.placed ps ∧ k < f.places.length)) = f.names.all fun p => allowsN ps f.places.length p.name := by
    congr 1; funext p; exact allows_ok h _ p
  rw [hall] at hb
  have hle := fold_bad_le ps f.names ⟨slotsA ps.length f.places (cnt Param.placed ps) f.places.length, [], bad0 ps f⟩
  have hgiven : ∀ i (hi : i < ps.length), ((boundSlots ps f).getD i default).given = (decide (i < cnt Param.placed ps ∧ i < f.places.length) || f.names.any fun p => decide (0 ≤ takesBy ps p.name) && (decide (tk ps p = i) && !(kd ps i == 4))) := by
    intro i hi
    rw [boundSlots_given]
    unfold boundS nameS
    rw [fold_given ps i f.names _ (by simpa [hslots] using hi), slotsA_given hi]
  have hany : ∀ i (hi : i < ps.length), ps[i].named = true → (f.names.any fun p => decide (0 ≤ takesBy ps p.name) && (decide (tk ps p = i) && !(kd ps i == 4))) = f.names.any fun p => decide (p.name = ps[i].name) := by
    intro i hi hn
    rw [Bool.eq_iff_iff]
    simp only [List.any_eq_true, Bool.and_eq_true, decide_eq_true_eq, Bool.not_eq_true']
    constructor
    · rintro ⟨p, hp, h0, he, h4⟩
      obtain ⟨hk, h1, _⟩ := hkind p h0 (by rw [he]; simpa using h4)
      exact ⟨p, hp, by rw [← h1]; simp only [he]⟩
    · rintro ⟨p, hp, he⟩
      have := takesBy_own h i hi hn
      rw [← he] at this
      refine ⟨p, hp, by omega, by simp [tk, this], ?_⟩
      simp only [Param.named, Bool.or_eq_true, beq_iff_eq] at hn
      simp only [kd, List.getD, List.getElem?_eq_getElem hi, Option.getD_some]
      simp; omega
  have hnone : ∀ i (hi : i < ps.length), ps[i].kind = 0 → (f.names.any fun p => decide (0 ≤ takesBy ps p.name) && (decide (tk ps p = i) && !(kd ps i == 4))) = false := by
    intro i hi h0
    rw [Bool.eq_false_iff]
    intro hc
    simp only [List.any_eq_true, Bool.and_eq_true, decide_eq_true_eq, Bool.not_eq_true'] at hc
    obtain ⟨p, hp, h1, he, h4⟩ := hc
    obtain ⟨hk, _, hn, _⟩ := hkind p h1 (by rw [he]; simpa using h4)
    simp only [he, Param.named, Bool.or_eq_true, beq_iff_eq] at hn
    omega
  rw [Bool.eq_iff_iff]
  simp only [acceptsS, problemsS, beq_iff_eq, List.length_append, Nat.add_eq_zero_iff, List.length_eq_zero_iff, Bool.and_eq_true]
  rw [missL_nil]
  have hbad : (boundS ps f).bad = [] ↔ ((decide (cnt Param.placed ps < f.places.length) && decide (idxOf (fun p => p.kind == 2) ps < 0)) = false ∧ f.names.all (fun p => allowsN ps f.places.length p.name) = true) := by
    rw [← List.length_eq_zero_iff]
    unfold boundS nameS
    simp only at hb hle
    have h0 : (bad0 ps f).length = 0 ↔ (decide (cnt Param.placed ps < f.places.length) && decide (idxOf (fun p => p.kind == 2) ps < 0)) = false := by
      unfold bad0
      split
      · rename_i hc; simp [hc]
      · rename_i hc; simpa using hc
    rw [← h0, ← hb]
    omega
  rw [hbad]
  unfold takesN
  simp only [Bool.and_eq_true, Bool.not_eq_true']
  have hmiss : (∀ i (hi : i < ps.length), (ps[i].single && !ps[i].hasDefault && !((boundSlots ps f).getD (0 + i) default).given) = false) ↔
      ((ps.drop f.places.length).all (fun p => !(p.kind == 0 && !p.hasDefault)) = true ∧ (needL f.places.length 0 ps).all (fun nm => f.names.any fun p => decide (p.name = nm)) = true) := by
    constructor
    · intro hm
      constructor
      · rw [List.all_eq_true]
        intro p hp
        obtain ⟨j, hj, rfl⟩ := List.getElem_of_mem hp
        simp only [List.length_drop] at hj
        have hi : f.places.length + j < ps.length := by omega
        simp only [List.getElem_drop, Bool.not_eq_true', Bool.and_eq_false_iff, Bool.not_eq_false']
        cases hk0 : ps[f.places.length + j].kind == 0
        · left; rfl
        · right
          have hk0' : ps[f.places.length + j].kind = 0 := by simpa using hk0
          have := hm _ hi
          rw [Nat.zero_add, hgiven _ hi, hnone _ hi hk0'] at this
          have hs : ps[f.places.length + j].single = true := by simp [Param.single, Param.placed, hk0']
          have hd : decide (f.places.length + j < cnt Param.placed ps ∧ f.places.length + j < f.places.length) = false := by simp
          simpa [hs, hd] using this
      · rw [List.all_eq_true]
        intro nm hnm
        rw [mem_needL] at hnm
        obtain ⟨i, hi, h1, rfl⟩ := hnm
        simp only [Nat.zero_add, Bool.and_eq_true, Bool.not_eq_true'] at h1
        have := hm i hi
        rw [Nat.zero_add, hgiven i hi] at this
        have hn : ps[i].named = true := by
          have := h1.1
          simp only [Param.opn, Bool.or_eq_true, Bool.and_eq_true, beq_iff_eq] at this
          simp only [Param.named, Bool.or_eq_true, beq_iff_eq]
          omega
        have hs : ps[i].single = true := by
          simp only [Param.named, Bool.or_eq_true, beq_iff_eq] at hn
          simp only [Param.single, Param.placed, Bool.or_eq_true, beq_iff_eq]
          omega
        rw [hany i hi hn, hs, h1.2] at this
        have hop := h1.1
        rw [named_opn hn] at hop
        have hd : decide (i < cnt Param.placed ps ∧ i < f.places.length) = false := by
          simp only [Bool.or_eq_true, beq_iff_eq, decide_eq_true_eq] at hop
          rw [decide_eq_false_iff_not]
          rintro ⟨hc1, hc2⟩
          have := placed_first h i hi hc1
          simp only [Param.placed, Bool.or_eq_true, beq_iff_eq] at this
          omega
        rw [hd] at this
        simpa using this
    · rintro ⟨h1, h2⟩ i hi
      rw [Nat.zero_add, hgiven i hi]
      rw [Bool.eq_false_iff]
      intro hc
      simp only [Bool.and_eq_true, Bool.not_eq_true', Bool.or_eq_false_iff] at hc
      obtain ⟨⟨hs, hd⟩, hg1, hg2⟩ := hc
      cases hn : ps[i].named
      · have hk0 : ps[i].kind = 0 := by
          simp only [Param.single, Param.placed, Bool.or_eq_true, beq_iff_eq] at hs
          simp only [Param.named, Bool.or_eq_false_iff, beq_eq_false_iff_ne] at hn
          omega
        have hip := placed_lt h i hi (by simp [Param.placed, hk0])
        have hge : f.places.length ≤ i := by
          rw [decide_eq_false_iff_not] at hg1
          omega
        rw [List.all_eq_true] at h1
        have := h1 ps[i] (by
          have : ps[i] = (ps.drop f.places.length)[i - f.places.length]'(by simp; omega) := by
            rw [List.getElem_drop]; congr 1; omega
          rw [this]
          exact List.getElem_mem _)
        simp [hk0, hd] at this
      · rw [List.all_eq_true] at h2
        have := h2 ps[i].name ((mem_needL _ _ _ _).2 ⟨i, hi, by
          rw [Nat.zero_add, named_opn hn]
          simp only [Bool.and_eq_true, Bool.or_eq_true, beq_iff_eq, decide_eq_true_eq, Bool.not_eq_true']
          refine ⟨?_, hd⟩
          by_cases h3 : ps[i].kind = 3
          · exact .inl h3
          · right
            have hip := placed_lt h i hi (by
              simp only [Param.named, Bool.or_eq_true, beq_iff_eq] at hn
              simp [Param.placed]; omega)
            rw [decide_eq_false_iff_not] at hg1
            omega, rfl⟩)
        rw [hany i hi hn] at hg2
        rw [hg2] at this
        cases this
  rw [hmiss]
  constructor
  · rintro ⟨⟨h1, h2⟩, h3, h4⟩; exact ⟨⟨⟨h1, h3⟩, h4⟩, h2⟩
  · rintro ⟨⟨⟨h1, h3⟩, h4⟩, h2⟩; exact ⟨⟨h1, h2⟩, h3, h4⟩

end Go.Proofs.K
/- Ascending lists of texts; the first refused shape. -/
namespace Go.Proofs.K
open Go Go.Proofs Go.IntWalk

theorem bytesLess_eq : ∀ (x y : List UInt8), Op.bytesLess x y = decide (x < y)
  | [], [] => by simp [Op.bytesLess]
  | _ :: _, [] => by simp [Op.bytesLess]
  | [], _ :: _ => by simp [Op.bytesLess]
  | a :: x, b :: y => by
    rw [Op.bytesLess, bytesLess_eq x y]
    simp only [List.cons_lt_cons_iff]
    by_cases h1 : a < b <;> by_cases h2 : a = b <;> by_cases h3 : x < y <;> simp [h1, h2, h3]
theorem sls_eq (a b : ByteArray) : sls a b = decide (a.data.toList < b.data.toList) := by
  unfold sls
  rw [bytesLess_eq, ByteArray.toList_eq, ByteArray.toList_eq]
theorem sls_irrefl (a : ByteArray) : sls a a = false := by rw [sls_eq]; simp [List.lt_irrefl]
theorem sls_trans {a b c : ByteArray} (h : sls a b = true) (k : sls b c = true) : sls a c = true := by
  rw [sls_eq, decide_eq_true_eq] at *
  exact List.lt_trans h k
theorem sls_tri (a b : ByteArray) (h : sls a b = false) (k : sls b a = false) : a = b := by
  rw [sls_eq, decide_eq_false_iff_not] at *
  have := List.le_antisymm (List.not_lt.1 k) (List.not_lt.1 h)
  exact ByteArray.ext (Array.toList_inj.mp this)
theorem sls_asymm {a b : ByteArray} (h : sls a b = true) : sls b a = false := by
  rw [Bool.eq_false_iff]
  intro k
  have := sls_trans h k
  rw [sls_irrefl] at this; cases this

/-- Strictly ascending. -/
def Asc (l : List ByteArray) : Prop := l.Pairwise fun a b => sls a b = true

theorem asc_ext : ∀ {l m : List ByteArray}, Asc l → Asc m → (∀ x, x ∈ l ↔ x ∈ m) → l = m
  | [], [], _, _, _ => rfl
  | [], y :: m, _, _, h => by have := (h y).2 (by simp); simp at this
  | x :: l, [], _, _, h => by have := (h x).1 (by simp); simp at this
  | x :: l, y :: m, hl, hm, h => by
    have hx := List.pairwise_cons.1 hl
    have hy := List.pairwise_cons.1 hm
    have e : x = y := by
      rcases List.mem_cons.1 ((h x).1 (by simp)) with e | e
      · exact e
      · rcases List.mem_cons.1 ((h y).2 (by simp)) with e' | e'
        · exact e'.symm
        · have h1 := hx.1 y e'
          have h2 := hy.1 x e
          rw [sls_asymm h1] at h2; cases h2
    subst e
    congr 1
    refine asc_ext hx.2 hy.2 fun z => ?_
    constructor
    · intro hz
      rcases List.mem_cons.1 ((h z).1 (by simp [hz])) with e | e
      · subst e; have := hx.1 z hz; rw [sls_irrefl] at this; cases this
      · exact e
    · intro hz
      rcases List.mem_cons.1 ((h z).2 (by simp [hz])) with e | e
      · subst e; have := hy.1 z hz; rw [sls_irrefl] at this; cases this
      · exact e

theorem insT_spec : ∀ (out : List ByteArray) (x : ByteArray), Asc out → Asc (insT out x) ∧ (∀ z, z ∈ insT out x ↔ z = x ∨ z ∈ out) ∧ (x ∉ out → (insT out x).length = out.length + 1)
  | [], x, _ => by simp [insT, insAt, Asc]
  | y :: out, x, h => by
    have hy := List.pairwise_cons.1 h
    obtain ⟨ih1, ih2, ih3⟩ := insT_spec out x hy.2
    cases hyx : sls y x
    · have hat : insAt (y :: out) x = 0 := by simp [insAt, hyx]
      by_cases e : y = x
      · subst e
        have : insT (y :: out) y = y :: out := by simp [insT, hat]
        rw [this]
        exact ⟨h, fun z => by simp, fun hn => absurd (by simp) hn⟩
      · have : insT (y :: out) x = x :: y :: out := by simp [insT, hat, e]
        rw [this]
        have hxy : sls x y = true := by
          cases hxy : sls x y
          · exact absurd (sls_tri y x hyx hxy) e
          · rfl
        refine ⟨List.pairwise_cons.2 ⟨fun z hz => ?_, h⟩, fun z => by simp, fun _ => by simp⟩
        rcases List.mem_cons.1 hz with rfl | hz
        · exact hxy
        · exact sls_trans hxy (hy.1 z hz)
    · have hat : insAt (y :: out) x = insAt out x + 1 := by simp [insAt, hyx]
      have : insT (y :: out) x = y :: insT out x := by
        simp only [insT, hat, List.getElem?_cons_succ, List.take_succ_cons, List.drop_succ_cons]
        split <;> simp
      rw [this]
      refine ⟨List.pairwise_cons.2 ⟨fun z hz => ?_, ih1⟩, fun z => ?_, fun hn => ?_⟩
      · rcases (ih2 z).1 hz with rfl | hz
        · exact hyx
        · exact hy.1 z hz
      · simp only [List.mem_cons, ih2 z]
        constructor
        · rintro (h | h | h)
          · exact .inr (.inl h)
          · exact .inl h
          · exact .inr (.inr h)
        · rintro (h | h | h)
          · exact .inr (.inl h)
          · exact .inl h
          · exact .inr (.inr h)
      · simp only [List.length_cons, ih3 (fun hc => hn (by simp [hc]))]

theorem sortT_app (l : List ByteArray) (x : ByteArray) : sortT (l ++ [x]) = insT (sortT l) x := by
  unfold sortT; rw [List.foldl_append]; rfl

theorem foldT_spec : ∀ (l acc : List ByteArray), Asc acc → Asc (l.foldl insT acc) ∧ ∀ z, z ∈ l.foldl insT acc ↔ z ∈ l ∨ z ∈ acc
  | [], acc, h => ⟨h, fun z => by simp⟩
  | x :: l, acc, h => by
    obtain ⟨h1, h2, _⟩ := insT_spec acc x h
    obtain ⟨k1, k2⟩ := foldT_spec l (insT acc x) h1
    refine ⟨k1, fun z => ?_⟩
    rw [List.foldl_cons, k2 z, h2 z]
    simp only [List.mem_cons]
    constructor
    · rintro (h | h | h)
      · exact .inl (.inr h)
      · exact .inl (.inl h)
      · exact .inr h
    · rintro ((h | h) | h)
      · exact .inr (.inl h)
      · exact .inl h
      · exact .inr (.inr h)

theorem sortT_asc (l : List ByteArray) : Asc (sortT l) := (foldT_spec l [] List.Pairwise.nil).1
theorem sortT_mem (l : List ByteArray) (z : ByteArray) : z ∈ sortT l ↔ z ∈ l := by
  have := (foldT_spec l [] List.Pairwise.nil).2 z
  simpa [sortT] using this
theorem sortT_congr {l m : List ByteArray} (h : ∀ x, x ∈ l ↔ x ∈ m) : sortT l = sortT m :=
  asc_ext (sortT_asc l) (sortT_asc m) fun x => by rw [sortT_mem, sortT_mem]; exact h x
theorem sortT_id {l : List ByteArray} (h : Asc l) : sortT l = l := asc_ext (sortT_asc l) h (sortT_mem l)
theorem sortT_sortT_app (l m : List ByteArray) : sortT (sortT l ++ m) = sortT (l ++ m) :=
  sortT_congr fun x => by simp [sortT_mem]
theorem Asc.nodup {l : List ByteArray} (h : Asc l) : l.Nodup := List.Pairwise.imp (fun {a b} hab e => by subst e; rw [sls_irrefl] at hab; cases hab) h

/-- The first in an ascending list for which something holds. -/
theorem find_asc {q : ByteArray → Bool} : ∀ {l : List ByteArray}, Asc l → ∀ {x}, l.find? q = some x ↔ x ∈ l ∧ q x = true ∧ ∀ y ∈ l, q y = true → y = x ∨ sls x y = true
  | [], _, x => by simp
  | y :: l, h, x => by
    have hy := List.pairwise_cons.1 h
    rw [List.find?_cons]
    cases hq : q y
    · simp only
      rw [find_asc hy.2]
      constructor
      · rintro ⟨h1, h2, h3⟩
        refine ⟨by simp [h1], h2, fun z hz hqz => ?_⟩
        rcases List.mem_cons.1 hz with rfl | hz
        · rw [hq] at hqz; cases hqz
        · exact h3 z hz hqz
      · rintro ⟨h1, h2, h3⟩
        rcases List.mem_cons.1 h1 with rfl | h1
        · rw [hq] at h2; cases h2
        · exact ⟨h1, h2, fun z hz hqz => h3 z (by simp [hz]) hqz⟩
    · simp only [Option.some.injEq]
      constructor
      · rintro rfl
        refine ⟨by simp, hq, fun z hz _ => ?_⟩
        rcases List.mem_cons.1 hz with rfl | hz
        · exact .inl rfl
        · exact .inr (hy.1 z hz)
      · rintro ⟨h1, h2, h3⟩
        rcases h3 y (by simp) hq with e | e
        · exact e
        · rcases List.mem_cons.1 h1 with rfl | h1
          · rfl
          · have := hy.1 x h1
            rw [sls_asymm this] at e; cases e

/-! ### The names that come one behind the other -/
def stepL (l : List UInt8) : List UInt8 :=
  if l.length < 6 then l ++ [97] else match l.reverse.dropWhile (fun c => c == 122) with
    | [] => []
    | c :: r => r.reverse ++ [c + 1]
def nmL : Nat → List UInt8
  | 0 => [97]
  | k + 1 => stepL (nmL k)
def nm (k : Nat) : ByteArray := ⟨(nmL k).toArray⟩

theorem nm_ok_all : ((List.range 40).all fun k => nameOk (nm k)) = true := by kernel_rfl
theorem nm_ok {k : Nat} (h : k < 40) : nameOk (nm k) = true := by
  have := nm_ok_all
  rw [List.all_eq_true] at this
  exact this k (by simpa using h)
theorem nm_lt_all : ((List.range 40).all fun i => (List.range i).all fun j => Op.bytesLess (nmL j) (nmL i)) = true := by kernel_rfl
theorem nm_lt {i j : Nat} (h : j < i) (hi : i < 40) : sls (nm j) (nm i) = true := by
  have := nm_lt_all
  rw [List.all_eq_true] at this
  have := this i (by simpa using hi)
  rw [List.all_eq_true] at this
  have := this j (by simpa using h)
  unfold sls
  rw [ByteArray.toList_eq, ByteArray.toList_eq]
  exact this
theorem nm_inj {i j : Nat} (hi : i < 40) (hj : j < 40) (h : nm i = nm j) : i = j := by
  rcases Nat.lt_trichotomy i j with h1 | h1 | h1
  · have := nm_lt h1 hj; rw [h, sls_irrefl] at this; cases this
  · exact h1
  · have := nm_lt h1 hi; rw [h, sls_irrefl] at this; cases this

/-- The first of these names that is not on a list. -/
def hasT (l : List ByteArray) (x : ByteArray) : Bool := l.any fun y => decide (y = x)
theorem hasT_iff {l : List ByteArray} {x : ByteArray} : hasT l x = true ↔ x ∈ l := by simp [hasT]
theorem hasT_not {l : List ByteArray} {x : ByteArray} : hasT l x = false ↔ x ∉ l := by rw [← hasT_iff]; simp
def freshK (l : List ByteArray) : Nat → Nat → Nat
  | 0, k => k
  | m + 1, k => if hasT l (nm k) = true then freshK l m (k + 1) else k
theorem freshK_spec (l : List ByteArray) : ∀ (m k : Nat), k ≤ freshK l m k ∧ freshK l m k ≤ k + m ∧ (∀ j, k ≤ j → j < freshK l m k → nm j ∈ l) ∧ (freshK l m k < k + m → nm (freshK l m k) ∉ l)
  | 0, k => by simp [freshK]; omega
  | m + 1, k => by
    simp only [freshK]
    split
    · rename_i h
      obtain ⟨h1, h2, h3, h4⟩ := freshK_spec l m (k + 1)
      refine ⟨by omega, by omega, fun j hj hjk => ?_, fun hlt => h4 (by omega)⟩
      by_cases e : j = k
      · subst e; exact hasT_iff.1 h
      · exact h3 j (by omega) hjk
    · rename_i h
      exact ⟨Nat.le_refl _, by omega, fun j hj hjk => by omega, fun _ hc => h (hasT_iff.2 hc)⟩

/-- Different members of a list are no more than it is long. -/
theorem count_le : ∀ (n : Nat) (l : List ByteArray) (f : Nat → ByteArray), (∀ i j, i < n → j < n → f i = f j → i = j) → (∀ i, i < n → f i ∈ l) → n ≤ l.length
  | 0, l, f, _, _ => Nat.zero_le _
  | n + 1, l, f, hinj, hm => by
    obtain ⟨a, b, hab⟩ := List.append_of_mem (hm n (by omega))
    have := count_le n (a ++ b) f (fun i j hi hj => hinj i j (by omega) (by omega)) (fun i hi => by
      have hne : f i ≠ f n := fun e => by have := hinj i n (by omega) (by omega) e; omega
      have := hm i (by omega)
      rw [hab] at this
      simp only [List.mem_append, List.mem_cons] at this ⊢
      rcases this with h | h | h
      · exact .inl h
      · exact absurd h hne
      · exact .inr h)
    rw [hab]
    simp only [List.length_append, List.length_cons] at this ⊢
    omega

def fresh (l : List ByteArray) : Nat := freshK l 39 0
theorem fresh_spec {l : List ByteArray} (h : l.length < 39) : fresh l ≤ l.length ∧ nm (fresh l) ∉ l ∧ ∀ j, j < fresh l → nm j ∈ l := by
  obtain ⟨h1, h2, h3, h4⟩ := freshK_spec l 39 0
  have hc := count_le (fresh l) l nm (fun i j hi hj => nm_inj (by unfold fresh at hi; omega) (by unfold fresh at hj; omega)) (fun i hi => h3 i (by omega) hi)
  refine ⟨hc, h4 (by unfold fresh at hc; omega), fun j hj => h3 j (by omega) hj⟩

/-! ### Shapes -/
structure Shape where
  count : Nat
  names : List ByteArray
  deriving Inhabited
def flatOfS (x : Shape) : Flat := ⟨List.replicate x.count 0, x.names.map fun s => ⟨s, 0⟩⟩
def needT (ps : List Param) (n : Nat) : List ByteArray := sortT (needL n 0 ps)
def namesP (ps : List Param) : List ByteArray := ps.map Param.name

theorem flatOfS_names (x : Shape) : (flatOfS x).names.map Pair.name = x.names := by simp [flatOfS, Function.comp_def]
theorem accepts_shape {ps : List Param} {x : Shape} (h : sigOk ps = true) (hx : x.names.Nodup) :
    acceptsS ps (flatOfS x) = (takesN ps x.count && (needL x.count 0 ps).all (hasT x.names) && x.names.all fun s => allowsN ps x.count s) := by
  rw [accepts_eq h (by rw [flatOfS_names]; exact hx)]
  simp only [flatOfS, List.length_replicate, List.all_map, List.any_map]
  rfl
end Go.Proofs.K
/- The first refused shape: the reference's way and the program's way are one. -/
namespace Go.Proofs.K
open Go Go.Proofs Go.IntWalk

def candS (a b : List Param) (n : Nat) (x : ByteArray) : Bool := allowsN a n x && !hasT (needT a n) x && !allowsN b n x
def listS (a b : List Param) : List ByteArray := sortT (namesP a ++ namesP b ++ [nm (fresh (namesP a ++ namesP b))])
def firstNameS (a b : List Param) (n : Nat) : ByteArray := ((listS a b).find? (candS a b n)).getD ⟨#[]⟩
def refusedAtS (a b : List Param) (n : Nat) : Option Shape :=
  if takesN a n = false then none
  else if acceptsS b (flatOfS ⟨n, needT a n⟩) = false then some ⟨n, needT a n⟩
  else if 8 ≤ (needT a n).length then none
  else if firstNameS a b n = ⟨#[]⟩ then none
  else some ⟨n, sortT (needT a n ++ [firstNameS a b n])⟩
def firstRefusedS (a b : List Param) : Option Shape := if (sigOk a && sigOk b) = true then (List.range 9).findSome? (refusedAtS a b) else none
def fitsS (a b : List Param) : Bool := sigOk a && sigOk b && (firstRefusedS a b).isNone

def okN (l : List ByteArray) (i : Nat) : Bool := nameOk (l.getD i ⟨#[]⟩) && !(decide (0 < i) && !sls (l.getD (i - 1) ⟨#[]⟩) (l.getD i ⟨#[]⟩))
def namesOk (l : List ByteArray) : Bool := (List.range l.length).all (okN l)
def shapeOk (x : Shape) : Bool := namesOk x.names && inR x.count 0 8 && decide (x.names.length ≤ 8)
def acceptsShapeI (ps : List Param) (x : Shape) : Bool := shapeOk x && acceptsS ps (flatOfS x)
def someNamesI (a b : List Param) : List ByteArray := sortT (namesP a ++ namesP b ++ (List.range 40).map nm)
def candI (a b : List Param) (n : Nat) (s : ByteArray) : Bool :=
  !hasT (needT a n) s && acceptsShapeI a ⟨n, sortT (needT a n ++ [s])⟩ && !acceptsShapeI b ⟨n, sortT (needT a n ++ [s])⟩
def refusedAtI (a b : List Param) (n : Nat) : Option Shape :=
  if takesN a n = false then none
  else if acceptsShapeI b ⟨n, needT a n⟩ = false then some ⟨n, needT a n⟩
  else ((someNamesI a b).find? (candI a b n)).map fun s => ⟨n, sortT (needT a n ++ [s])⟩

theorem namesOk_no {l : List ByteArray} {k : Nat} (h : k < l.length) (hb : okN l k = false) : namesOk l = false := by
  unfold namesOk
  rw [List.all_eq_false]
  exact ⟨k, by simpa using h, by simp [hb]⟩
theorem namesOk_yes {l : List ByteArray} (h : ∀ k, k < l.length → okN l k = true) : namesOk l = true := by
  unfold namesOk
  rw [List.all_eq_true]
  intro k hk; exact h k (by simpa using hk)
theorem namesOk_iff {l : List ByteArray} : namesOk l = true ↔ (∀ x ∈ l, nameOk x = true) ∧ Asc l := by
  constructor
  · intro h
    unfold namesOk at h
    rw [List.all_eq_true] at h
    have hk : ∀ k (hk : k < l.length), okN l k = true := fun k hk => h k (by simpa using hk)
    have hn : ∀ k (hk : k < l.length), nameOk l[k] = true := fun k hkl => by
      have := hk k hkl
      unfold okN at this
      rw [Bool.and_eq_true] at this
      simpa [List.getD, hkl] using this.1
    have hs : ∀ k (hk : k + 1 < l.length), sls l[k] l[k + 1] = true := fun k hkl => by
      have := hk (k + 1) hkl
      unfold okN at this
      rw [Bool.and_eq_true] at this
      have h2 := this.2
      have hkl' : k < l.length := by omega
      simpa [List.getD, hkl, hkl'] using h2
    refine ⟨fun x hx => ?_, ?_⟩
    · obtain ⟨i, hi, rfl⟩ := List.getElem_of_mem hx
      exact hn i hi
    · unfold Asc
      rw [List.pairwise_iff_getElem]
      intro i j hi hj hij
      induction j with
      | zero => omega
      | succ j ih =>
        by_cases e : i = j
        · subst e; exact hs i hj
        · exact sls_trans (ih (by omega) (by omega)) (hs j hj)
  · rintro ⟨h1, h2⟩
    refine namesOk_yes fun k hk => ?_
    unfold okN
    simp only [List.getD, List.getElem?_eq_getElem hk, Option.getD_some, Bool.and_eq_true]
    refine ⟨h1 _ (by simp), ?_⟩
    cases k with
    | zero => simp
    | succ k =>
      have hk' : k < l.length := by omega
      unfold Asc at h2
      rw [List.pairwise_iff_getElem] at h2
      simp [hk', h2 k (k + 1) hk' hk (by omega)]

theorem needL_names {a : List Param} {n : Nat} {x : ByteArray} (hx : x ∈ needL n 0 a) : x ∈ namesP a := by
  rw [mem_needL] at hx
  obtain ⟨i, hi, _, rfl⟩ := hx
  exact List.mem_map_of_mem (List.getElem_mem hi)
theorem namesP_ok {a : List Param} (h : sigOk a = true) {x : ByteArray} (hx : x ∈ namesP a) : nameOk x = true := by
  unfold namesP at hx
  rw [List.mem_map] at hx
  obtain ⟨p, hp, rfl⟩ := hx
  obtain ⟨i, hi, rfl⟩ := List.getElem_of_mem hp
  have := sigOk_ok h i hi
  simp only [Param.ok, Bool.and_eq_true] at this
  exact this.1.1.1.1
theorem needL_allowed {a : List Param} (h : sigOk a = true) {n : Nat} {x : ByteArray} (hx : x ∈ needL n 0 a) : allowsN a n x = true := by
  rw [mem_needL] at hx
  obtain ⟨i, hi, h1, rfl⟩ := hx
  simp only [Nat.zero_add, Bool.and_eq_true] at h1
  have hn : a[i].named = true := by
    have := h1.1
    simp only [Param.opn, Bool.or_eq_true, Bool.and_eq_true, beq_iff_eq] at this
    simp only [Param.named, Bool.or_eq_true, beq_iff_eq]
    omega
  unfold allowsN
  rw [takesBy_own h i hi hn]
  simp only [Int.toNat_natCast, List.getD, List.getElem?_eq_getElem hi, Option.getD_some, Bool.and_eq_true, Bool.or_eq_true, decide_eq_true_eq]
  exact ⟨by omega, .inr h1.1⟩
theorem needT_mem {a : List Param} {n : Nat} {x : ByteArray} : x ∈ needT a n ↔ x ∈ needL n 0 a := sortT_mem _ _
theorem needT_asc (a : List Param) (n : Nat) : Asc (needT a n) := sortT_asc _
theorem needT_len {a : List Param} {n : Nat} : (needT a n).length ≤ a.length := Nat.le_trans (sortT_len _) (needL_len _ _ _)
theorem needT_ok {a : List Param} (h : sigOk a = true) {n : Nat} : namesOk (needT a n) = true :=
  namesOk_iff.2 ⟨fun x hx => namesP_ok h (needL_names (needT_mem.1 hx)), needT_asc a n⟩

theorem size_ok {s : ByteArray} (h : nameOk s = true) : s ≠ ⟨#[]⟩ := by
  rintro rfl
  have : nameOk ⟨#[]⟩ = false := by kernel_rfl
  rw [this] at h; cases h

/-- Not the name of a parameter: only the parameter that takes all names can take it. -/
theorem allows_other {a : List Param} {n : Nat} {x : ByteArray} (hx : x ∉ namesP a) : allowsN a n x = decide (0 ≤ idxOf (fun p : Param => p.kind == 4) a) := by
  unfold allowsN
  rcases takesBy_cases (ps := a) x with ⟨k, hk, _, hkn, _⟩ | h4
  · exact absurd (by rw [← hkn]; exact List.mem_map_of_mem (List.getElem_mem hk)) hx
  · rw [h4]
    cases h0 : decide (0 ≤ idxOf (fun p : Param => p.kind == 4) a)
    · rfl
    · obtain ⟨k, hk, hkt, hk4⟩ := idx4 (ps := a) (by simpa using h0)
      rw [hkt]
      simp [hk, hk4, List.getD]

section
variable {a b : List Param} {n : Nat}

theorem accepts_need (ha : sigOk a = true) (s : List ByteArray) (hs : ∀ x ∈ needT a n, x ∈ s) (hnd : s.Nodup) :
    acceptsS a (flatOfS ⟨n, s⟩) = (takesN a n && s.all fun x => allowsN a n x) := by
  rw [accepts_shape ha hnd]
  have : (needL n 0 a).all (hasT s) = true := by
    rw [List.all_eq_true]; intro x hx; exact hasT_iff.2 (hs x (needT_mem.2 hx))
  rw [this, Bool.and_true]

theorem cand_eq (ha : sigOk a = true) (hb : sigOk b = true) (hn : n ≤ 8) (ht : takesN a n = true) (hacc : acceptsS b (flatOfS ⟨n, needT a n⟩) = true) (hlen : (needT a n).length < 8)
    {s : ByteArray} (hs : nameOk s = true) : candI a b n s = candS a b n s := by
  unfold candI candS
  cases hh : hasT (needT a n) s
  · have hns : s ∉ needT a n := hasT_not.1 hh
    have hasc := sortT_asc (needT a n ++ [s])
    have hmem : ∀ x, x ∈ sortT (needT a n ++ [s]) ↔ x ∈ needT a n ∨ x = s := fun x => by rw [sortT_mem]; simp
    have hl : (sortT (needT a n ++ [s])).length = (needT a n).length + 1 := by
      rw [sortT_app, sortT_id (needT_asc a n)]
      exact (insT_spec _ s (needT_asc a n)).2.2 hns
    have hok : shapeOk ⟨n, sortT (needT a n ++ [s])⟩ = true := by
      unfold shapeOk
      simp only [Bool.and_eq_true, decide_eq_true_eq, hl]
      refine ⟨⟨namesOk_iff.2 ⟨fun x hx => ?_, hasc⟩, ?_⟩, by omega⟩
      · rcases (hmem x).1 hx with h | h
        · exact namesP_ok ha (needL_names (needT_mem.1 h))
        · rw [h]; exact hs
      · simp [inR]; omega
    have h1 : acceptsShapeI a ⟨n, sortT (needT a n ++ [s])⟩ = allowsN a n s := by
      unfold acceptsShapeI
      rw [hok, Bool.true_and, accepts_need ha _ (fun x hx => (hmem x).2 (.inl hx)) hasc.nodup, ht, Bool.true_and]
      rw [Bool.eq_iff_iff, List.all_eq_true]
      constructor
      · intro h; exact h s ((hmem s).2 (.inr rfl))
      · intro h x hx
        rcases (hmem x).1 hx with h' | h'
        · exact needL_allowed ha (needT_mem.1 h')
        · rw [h']; exact h
    have h2 : acceptsShapeI b ⟨n, sortT (needT a n ++ [s])⟩ = allowsN b n s := by
      unfold acceptsShapeI
      rw [hok, Bool.true_and]
      rw [accepts_shape hb (needT_asc a n).nodup] at hacc
      rw [accepts_shape hb hasc.nodup]
      simp only [Bool.and_eq_true] at hacc
      obtain ⟨⟨k1, k2⟩, k3⟩ := hacc
      simp only at k1 k2 k3 ⊢
      rw [k1, Bool.true_and]
      have k2' : (needL n 0 b).all (hasT (sortT (needT a n ++ [s]))) = true := by
        rw [List.all_eq_true] at k2 ⊢
        intro x hx
        exact hasT_iff.2 ((hmem x).2 (.inl (hasT_iff.1 (k2 x hx))))
      rw [k2', Bool.true_and]
      rw [Bool.eq_iff_iff, List.all_eq_true]
      rw [List.all_eq_true] at k3
      constructor
      · intro h; exact h s ((hmem s).2 (.inr rfl))
      · intro h x hx
        rcases (hmem x).1 hx with h' | h'
        · exact k3 x h'
        · rw [h']; exact h
    rw [h1, h2]
    cases allowsN a n s <;> cases allowsN b n s <;> rfl
  · cases allowsN a n s <;> rfl

theorem find_eq (ha : sigOk a = true) (hb : sigOk b = true) (q : ByteArray → Bool)
    (hq : ∀ x y, x ∉ namesP a ++ namesP b → y ∉ namesP a ++ namesP b → q x = q y) : (someNamesI a b).find? q = (listS a b).find? q := by
  have hla : (namesP a).length ≤ 8 := by unfold namesP; rw [List.length_map]; exact (sigOk_at ha).2
  have hlb : (namesP b).length ≤ 8 := by unfold namesP; rw [List.length_map]; exact (sigOk_at hb).2
  obtain ⟨f1, f2, f3⟩ := fresh_spec (l := namesP a ++ namesP b) (by simp; omega)
  have hm1 : ∀ x, x ∈ listS a b ↔ x ∈ namesP a ++ namesP b ∨ x = nm (fresh (namesP a ++ namesP b)) := fun x => by unfold listS; rw [sortT_mem, List.mem_append]; simp only [List.mem_singleton]
  have hm2 : ∀ x, x ∈ someNamesI a b ↔ x ∈ namesP a ++ namesP b ∨ ∃ k, k < 40 ∧ nm k = x := fun x => by unfold someNamesI; rw [sortT_mem, List.mem_append]; simp only [List.mem_map, List.mem_range]
  have hsub : ∀ x, x ∈ listS a b → x ∈ someNamesI a b := fun x hx => by
    rw [hm1] at hx; rw [hm2]
    rcases hx with h | h
    · exact .inl h
    · exact .inr ⟨_, by simp at f1; omega, h.symm⟩
  cases h2 : (someNamesI a b).find? q with
  | none =>
    rw [List.find?_eq_none] at h2
    symm
    rw [List.find?_eq_none]
    intro x hx; exact h2 x (hsub x hx)
  | some x =>
    symm
    have ha1 : Asc (someNamesI a b) := sortT_asc _
    have ha2 : Asc (listS a b) := sortT_asc _
    rw [find_asc ha1] at h2
    rw [find_asc ha2]
    obtain ⟨h1, h2, h3⟩ := h2
    refine ⟨?_, h2, fun y hy hqy => h3 y (hsub y hy) hqy⟩
    refine (hm1 x).2 ?_
    rcases (hm2 x).1 h1 with h | ⟨k, hk, rfl⟩
    · exact .inl h
    · by_cases hin : nm k ∈ namesP a ++ namesP b
      · exact .inl hin
      · right
        have hqf : q (nm (fresh (namesP a ++ namesP b))) = true := by rw [hq _ _ f2 hin]; exact h2
        rcases h3 _ (hsub _ ((hm1 _).2 (.inr rfl))) hqf with e | e
        · exact e.symm
        · exfalso
          have hlt : fresh (namesP a ++ namesP b) < k ∨ k ≤ fresh (namesP a ++ namesP b) := by omega
          rcases hlt with h | h
          · rw [sls_asymm (nm_lt h hk)] at e; cases e
          · by_cases e2 : k = fresh (namesP a ++ namesP b)
            · rw [e2, sls_irrefl] at e; cases e
            · exact hin (f3 k (by omega))

theorem refused_eq (ha : sigOk a = true) (hb : sigOk b = true) (hn : n ≤ 8) : refusedAtI a b n = refusedAtS a b n := by
  have hla := (sigOk_at ha).2
  unfold refusedAtI refusedAtS
  cases ht : takesN a n
  · simp
  · simp only [Bool.true_eq_false, if_false]
    have hsh : acceptsShapeI b ⟨n, needT a n⟩ = acceptsS b (flatOfS ⟨n, needT a n⟩) := by
      unfold acceptsShapeI shapeOk
      simp only [needT_ok ha, Bool.true_and]
      have h1 : inR n 0 8 = true := by simp [inR]; omega
      have h2 : decide ((needT a n).length ≤ 8) = true := by have := needT_len (a := a) (n := n); simp; omega
      rw [h1, h2]; rfl
    rw [hsh]
    cases hacc : acceptsS b (flatOfS ⟨n, needT a n⟩)
    · simp
    · simp only [Bool.true_eq_false, if_false]
      by_cases hlen : 8 ≤ (needT a n).length
      · rw [if_pos hlen]
        rw [Option.map_eq_none_iff, List.find?_eq_none]
        intro s _
        unfold candI
        cases hh : hasT (needT a n) s
        · have hns : s ∉ needT a n := hasT_not.1 hh
          have hl : (sortT (needT a n ++ [s])).length = (needT a n).length + 1 := by
            rw [sortT_app, sortT_id (needT_asc a n)]
            exact (insT_spec _ s (needT_asc a n)).2.2 hns
          have : acceptsShapeI a ⟨n, sortT (needT a n ++ [s])⟩ = false := by
            unfold acceptsShapeI shapeOk
            simp only [hl]
            have : decide ((needT a n).length + 1 ≤ 8) = false := by simp; omega
            rw [this]; simp
          rw [this]; simp
        · simp
      · rw [if_neg hlen]
        have hlen' : (needT a n).length < 8 := by omega
        have hnm : ∀ s, s ∈ someNamesI a b → nameOk s = true := fun s hs => by
          unfold someNamesI at hs
          rw [sortT_mem] at hs
          simp only [List.mem_append, List.mem_map, List.mem_range] at hs
          rcases hs with (h | h) | ⟨k, hk, rfl⟩
          · exact namesP_ok ha h
          · exact namesP_ok hb h
          · exact nm_ok hk
        have e1 : (someNamesI a b).find? (candI a b n) = (someNamesI a b).find? (candS a b n) := by
          have : ∀ l : List ByteArray, (∀ s ∈ l, nameOk s = true) → l.find? (candI a b n) = l.find? (candS a b n) := by
            intro l
            induction l with
            | nil => intro _; rfl
            | cons x l ih =>
              intro h
              rw [List.find?_cons, List.find?_cons, cand_eq ha hb hn ht hacc hlen' (h x (by simp)), ih fun s hs => h s (by simp [hs])]
          exact this _ hnm
        have e2 : (someNamesI a b).find? (candS a b n) = (listS a b).find? (candS a b n) := find_eq ha hb _ fun x y hx hy => by
          simp only [List.mem_append, not_or] at hx hy
          have hx' : hasT (needT a n) x = false := hasT_not.2 fun h => hx.1 (needL_names (needT_mem.1 h))
          have hy' : hasT (needT a n) y = false := hasT_not.2 fun h => hy.1 (needL_names (needT_mem.1 h))
          unfold candS
          rw [allows_other hx.1, allows_other hy.1, allows_other hx.2, allows_other hy.2, hx', hy']
        rw [e1, e2]
        unfold firstNameS
        cases hf : (listS a b).find? (candS a b n) with
        | none => simp
        | some s =>
          have hs : nameOk s = true := hnm s (by
            have := List.mem_of_find?_eq_some (e2 ▸ hf)
            exact this)
          simp [size_ok hs]
end
end Go.Proofs.K
/- The library's Sort and Compact at own lists of texts. -/
namespace Go.Proofs.K
open Go Go.RowKit Go.Sort Go.Proofs

def tl (s : ByteArray) : List UInt8 := s.data.toList
def bl (l : List UInt8) : ByteArray := ⟨l.toArray⟩
@[simp] theorem bl_tl (s : ByteArray) : bl (tl s) = s := by unfold bl tl; simp
@[simp] theorem tl_bl (l : List UInt8) : tl (bl l) = l := by unfold bl tl; simp
def sortM (l : List ByteArray) : List ByteArray := ((l.map tl).mergeSort fun x y => decide (x ≤ y)).map bl
def compM (l : List ByteArray) : List ByteArray := (Lib.compact (l.map tl)).map bl

variable {P : Program} {g : Gs} {F X : Nat → Prop} {w : World} {mem : Mem}

theorem MR.grown (m : MR g F X w mem) (os : Array Obj) : MR g F X (grow w os) mem ∧ Ext g F X w mem g F X (grow w os) mem := by
  have hF : ∀ b, F b → (grow w os).heap[b]? = w.heap[b]? := fun b hb => heap_grow_old w os (m.lt b (m.sub b hb))
  refine ⟨⟨fun id => (m.blk id).goes (fun _ h => h) hF (fun id => Goes.refl _ _ _) rfl (fun h => heap_grow_old w os (m.own id h).2), m.apart, fun i hi => ⟨(m.own i hi).1, ?_⟩, m.sub, fun b hb => ?_⟩,
    ⟨⟨rfl, rfl, rfl, by rw [size_grow]; omega, fun b hb => heap_grow_old w os (m.lt b hb)⟩, fun _ h => h, fun _ h => h, fun _ h => .inl h, fun id => Goes.refl _ _ _⟩⟩
  · have := (m.own i hi).2; rw [size_grow]; omega
  · have := m.lt b hb; rw [size_grow]; omega

theorem heap_putRow (d : Array (List UInt8)) (n blk off : Nat) (k : Nat) (h : k ≠ blk) : (putRow encStr (Sort.ahead w n) blk off d).heap[k]? = w.heap[k]? := by
  simp only [putRow, mapBlock, Array.getElem?_modify]
  rw [if_neg (Ne.symm h)]; rfl
theorem heap_putRow_at {c : Array Value} {t : TypeId} (d : Array (List UInt8)) (n blk off : Nat) (h : w.heap[blk]? = some (.cells c t (0, 0))) :
    (putRow encStr (Sort.ahead w n) blk off d).heap[blk]? = some (.cells (putCells encStr off d c) t (0, 0)) := by
  have h' : (Sort.ahead w n).heap[blk]? = some (.cells c t (0, 0)) := h
  simp only [putRow, mapBlock, Array.getElem?_modify, h', if_true, Option.map_some, onCells]

/-- What an own list of texts holds. -/
theorem arr_texts {id : Nat} {l : List ByteArray} (m : MR g F X w mem) (hm : mem id = .arr 1 (l.map tx)) (hn : (g id).nilb = false) :
    l.length ≤ (g id).cap ∧ ∃ c t, w.heap[(g id).blk]? = some (.cells c t (0, 0)) ∧ (g id).off + (g id).cap ≤ c.size ∧ ∀ i s, l[i]? = some s → c[(g id).off + i]? = some (.string s) := by
  have hb := m.blk id
  rw [hm] at hb
  obtain ⟨_, hb⟩ := hb
  rcases hb with ⟨h1, _⟩ | ⟨_, h2, c, t, h3, h4, h5⟩
  · rw [hn] at h1; cases h1
  · refine ⟨by simpa using h2, c, t, h3, by simpa using h4, fun i s hs => ?_⟩
    obtain ⟨v, hv, hr⟩ := h5 i 0 [.str s] (.str s) (by simp [hs]) rfl
    have : v = .string s := by
      generalize hx : C.str s = x at hr
      cases hr <;> cases hx
      rfl
    rw [this] at hv
    simpa using hv

theorem holds_of {id : Nat} {l : List ByteArray} (m : MR g F X w mem) (hm : mem id = .arr 1 (l.map tx)) (hn : (g id).nilb = false) : Holds encStr w (g id).blk (g id).off (l.map tl).toArray := by
  obtain ⟨_, c, t, h3, _, h5⟩ := arr_texts m hm hn
  intro j hj
  have hj' : j < l.length := by simpa using hj
  refine ⟨?_, by simp [World.frozen?, h3]⟩
  rw [cell_of_block h3, h5 j l[j] (by simp [hj'])]
  simp [hj', encStr, tl]

/-- An own list of texts is written anew, as many as there were. -/
theorem MR.texts {id n : Nat} {l l' : List ByteArray} (m : MR g F X w mem) (hm : mem id = .arr 1 (l.map tx)) (hn : (g id).nilb = false) (hl : l'.length = l.length) :
    MR g F X (putRow encStr (Sort.ahead w n) (g id).blk (g id).off (l'.map tl).toArray) (upd mem id (.arr 1 (l'.map tx))) ∧
      Ext g F X w mem g F X (putRow encStr (Sort.ahead w n) (g id).blk (g id).off (l'.map tl).toArray) (upd mem id (.arr 1 (l'.map tx))) := by
  obtain ⟨h2, c, t, h3, h4, h5⟩ := arr_texts m hm hn
  refine m.put (by simp [owns, hm, hn]) (by rw [hm]; simp [Goes, hl]) (by simp [owns, hn]) ⟨rfl, rfl, rfl, by simp [Sort.ahead]⟩ (fun k hk => heap_putRow _ _ _ _ _ hk) (fun mem' _ _ => ?_)
  refine ⟨fun r hr => ?_, .inr ⟨hn, by simpa [hl] using h2, _, t, heap_putRow_at _ _ _ _ h3, by simpa [putCells] using h4, fun i j r x hr hx => ?_⟩⟩
  · simp only [List.mem_map] at hr; obtain ⟨s, _, rfl⟩ := hr; rfl
  · simp only [List.getElem?_map, Option.map_eq_some_iff] at hr
    obtain ⟨s, hs, rfl⟩ := hr
    have hi : i < l'.length := (List.getElem?_eq_some_iff.1 hs).1
    cases j with
    | succ j => simp at hx
    | zero =>
      simp at hx; subst hx
      refine ⟨.string s, ?_, RepC.str s⟩
      have hic : (g id).off + i < c.size := by omega
      simp only [putCells, Array.getElem?_mapIdx, Nat.mul_one, Nat.add_zero, Array.getElem?_eq_getElem hic, Option.map_some]
      rw [if_pos ⟨by omega, by simp; omega⟩]
      have e : (g id).off + i - (g id).off = i := by omega
      rw [e]
      have hs' : l'[i] = s := by rw [List.getElem?_eq_getElem hi] at hs; exact Option.some.inj hs
      simp [hi, hs', encStr, tl]

theorem sortM_len (l : List ByteArray) : (sortM l).length = l.length := by unfold sortM; simp

theorem scall_sort {fid : FuncId} {id nid : Nat} {l : List ByteArray} {K : PV → Mem → Nat → Prop} (hcal : Callable P fid)
    (hsort : ∀ (blk off cap : Nat) (ss : List (List UInt8)) (w : World), Holds encStr w blk off ss.toArray → blk < w.heap.size → ss.length < 4611686018427387904 →
      Calls P fid #[.slice (some ⟨blk, off, none⟩) ss.length cap] w fun e w' => e = .returned (.tuple #[]) ∧ ∃ n os, w' = grow (putRow encStr (Sort.ahead w n) blk off (ss.mergeSort fun x y => decide (x ≤ y)).toArray) os)
    (hnone : ∀ (p : Option Addr) (cap : Nat) (w : World), Calls P fid #[.slice p 0 cap] w fun e w' => e = .returned (.tuple #[]) ∧ w' = w)
    (hm : mem id = .arr 1 (l.map tx)) (hl : l.length < 4294967296) (hK : K vnone (upd mem id (.arr 1 ((sortM l).map tx))) nid) : SCall P (.one (.fn fid [])) [.one (.ms id)] mem nid K := by
  refine ⟨hcal, fun g F X w vs m hf hv => ?_⟩
  obtain ⟨hlen, hv⟩ := hv
  cases vs with
  | nil => simp at hlen
  | cons v vs =>
    cases vs with
    | cons _ _ => simp at hlen
    | nil =>
      have hv0 := hv 0 v (.one (.ms id)) rfl rfl
      have hv1 : V1 g F w mem v (.ms id) := hv0
      simp only [V1, hm] at hv1
      simp only [List.length_map] at hv1
      have hfr : ∀ i, nid ≤ i → upd mem id (.arr 1 ((sortM l).map tx)) i = .un := fun i hi => by
        have h1 := hf i hi
        have : i ≠ id := fun e => by subst e; rw [hm] at h1; cases h1
        rw [upd_ne _ _ this]; exact h1
      have htup : ∀ g F w mem, VR g F w mem (.tuple #[]) vnone := fun g F w mem => ⟨#[], rfl, rfl, fun i p h => by simp at h⟩
      cases hn : (g id).nilb with
      | true =>
        have hb := m.blk id
        rw [hm] at hb
        have hl0 : l = [] := by
          rcases hb.2 with ⟨_, h⟩ | ⟨h, _⟩
          · simpa using h
          · rw [hn] at h; cases h
        subst hl0
        subst hv1
        have hmem : upd mem id (.arr 1 ((sortM []).map tx)) = mem := by
          funext j; by_cases e : j = id
          · subst e; rw [upd_same, hm]; simp [sortM]
          · rw [upd_ne _ _ e]
        simp only [hdr, hn, if_true]
        refine (hnone none 0 w).mono ?_
        rintro e w' ⟨rfl, rfl⟩
        exact ⟨_, vnone, mem, nid, g, F, X, rfl, by rw [hmem] at hK; exact hK, m, hf, htup _ _ _ _, Ext.refl _ _ _ _ _⟩
      | false =>
        have hh := holds_of m hm hn
        have hs := hsort (g id).blk (g id).off (g id).cap (l.map tl) w hh (m.own id (by simp [owns, hm, hn])).2 (by simp; omega)
        simp only [List.length_map] at hs
        subst hv1
        simp only [hdr, hn, Bool.false_eq_true, if_false]
        refine hs.mono ?_
        rintro e w' ⟨rfl, n, os, rfl⟩
        obtain ⟨m1, e1⟩ := m.texts (n := n) (l' := sortM l) hm hn (sortM_len l)
        obtain ⟨m2, e2⟩ := m1.grown os
        have htl : (sortM l).map tl = (l.map tl).mergeSort fun x y => decide (x ≤ y) := by unfold sortM; rw [List.map_map]; simp [Function.comp_def]
        rw [htl] at m2 e1 e2
        exact ⟨_, vnone, _, nid, g, F, X, rfl, hK, m2, hfr, htup _ _ _ _, e1.trans e2⟩

theorem compact_le (zs : List (List UInt8)) : (Lib.compact zs).length ≤ zs.length := by
  unfold Lib.compact Lib.compactUpTo
  rw [List.length_map]
  exact Nat.le_trans (List.length_filter_le _ _) (by simp)
theorem compM_len (l : List ByteArray) : (compM l).length ≤ l.length := by
  unfold compM; rw [List.length_map]; have := compact_le (l.map tl); simpa using this

theorem scall_compact {fid : FuncId} {id nid : Nat} {l : List ByteArray} {K : PV → Mem → Nat → Prop} (hcal : Callable P fid)
    (hcomp : ∀ (blk off cap : Nat) (zs : List (List UInt8)) (w : World), Holds encStr w blk off zs.toArray → zs.length ≤ 9223372036854775807 → zs.length ≤ cap →
      Calls P fid #[.slice (some ⟨blk, off, none⟩) zs.length cap] w fun e w' => e = .returned (.slice (some ⟨blk, off, none⟩) (Lib.compact zs).length cap) ∧ ∃ q, w' = putRow encStr (Sort.ahead w q) blk off (Lib.compact zs ++ List.replicate (zs.length - (Lib.compact zs).length) []).toArray)
    (hnone : ∀ (p : Option Addr) (cap : Nat) (w : World), Calls P fid #[.slice p 0 cap] w fun e w' => e = .returned (.slice p 0 cap) ∧ w' = w)
    (hm : mem id = .arr 1 (l.map tx)) (hl : l.length < 4294967296) (hK : K (.one (.ms nid)) (upd (upd mem id .dead) nid (.arr 1 ((compM l).map tx))) (nid + 1)) : SCall P (.one (.fn fid [])) [.one (.ms id)] mem nid K := by
  refine ⟨hcal, fun g F X w vs m hf hv => ?_⟩
  obtain ⟨hlen, hv⟩ := hv
  cases vs with
  | nil => simp at hlen
  | cons v vs =>
    cases vs with
    | cons _ _ => simp at hlen
    | nil =>
      have hv0 := hv 0 v (.one (.ms id)) rfl rfl
      have hv1 : V1 g F w mem v (.ms id) := hv0
      simp only [V1, hm] at hv1
      simp only [List.length_map] at hv1
      have hne : id ≠ nid := fun e => by subst e; have := hf id (Nat.le_refl _); rw [hm] at this; cases this
      have hun : mem nid = .un := hf nid (Nat.le_refl _)
      have hfr : ∀ b i, nid + 1 ≤ i → upd (upd mem id .dead) nid b i = .un := fun b i hi => by
        have h1 := hf i (by omega)
        have : i ≠ id := fun e => by subst e; rw [hm] at h1; cases h1
        rw [upd_ne _ _ (by omega), upd_ne _ _ this]; exact h1
      cases hn : (g id).nilb with
      | true =>
        have hb := m.blk id
        rw [hm] at hb
        have hl0 : l = [] := by
          rcases hb.2 with ⟨_, h⟩ | ⟨h, _⟩
          · simpa using h
          · rw [hn] at h; cases h
        subst hl0
        subst hv1
        simp only [hdr, hn, if_true]
        refine (hnone none 0 w).mono ?_
        rintro e w' ⟨rfl, rfl⟩
        have hc0 : (compM []).map tx = [] := by simp [compM, Lib.compact, Lib.compactUpTo]
        rw [hc0] at hK
        obtain ⟨m2, e2⟩ := m.rename (id := id) (nid := nid) (b := .arr 1 []) (q := g id) (w' := w') (sz := 1) (rows := []) (by simpa using hm) hun rfl rfl ⟨_, _, rfl⟩ ⟨rfl, rfl, rfl, rfl⟩ (fun _ _ => rfl)
          (fun mem' => ⟨by simp, .inl ⟨by rw [upd_same]; exact hn, rfl⟩⟩)
        exact ⟨_, .one (.ms nid), _, nid + 1, _, F, X, rfl, hK, m2, hfr _, by simp [VR, V0, V1, hdr, hn], e2⟩
      | false =>
        have hh := holds_of m hm hn
        obtain ⟨k2, c, t, k3, k4, k5⟩ := arr_texts m hm hn
        have hs := hcomp (g id).blk (g id).off (g id).cap (l.map tl) w hh (by simp; omega) (by simpa using k2)
        simp only [List.length_map] at hs
        subst hv1
        simp only [hdr, hn, Bool.false_eq_true, if_false]
        refine hs.mono ?_
        rintro e w' ⟨rfl, q, rfl⟩
        have hcl := compact_le (l.map tl)
        simp only [List.length_map] at hcl
        have htl : (compM l ++ List.replicate (l.length - (Lib.compact (l.map tl)).length) (bl [])).map tl = Lib.compact (l.map tl) ++ List.replicate (l.length - (Lib.compact (l.map tl)).length) [] := by
          unfold compM; rw [List.map_append, List.map_map]; simp [Function.comp_def]
        obtain ⟨m1, e1⟩ := m.texts (n := q) (l' := compM l ++ List.replicate (l.length - (Lib.compact (l.map tl)).length) (bl [])) hm hn (by unfold compM; simp; omega)
        rw [htl] at m1 e1
        generalize hW : putRow encStr (Sort.ahead w q) (g id).blk (g id).off (Lib.compact (l.map tl) ++ List.replicate (l.length - (Lib.compact (l.map tl)).length) []).toArray = W at *
        have hb1 := arr_texts m1 (upd_same _ _ _) hn
        obtain ⟨j2, c1, t1, j3, j4, j5⟩ := hb1
        have hcml : (compM l).length = (Lib.compact (l.map tl)).length := by unfold compM; simp
        obtain ⟨m2, e2⟩ := m1.rename (id := id) (nid := nid) (b := .arr 1 ((compM l).map tx)) (q := g id) (w' := W)
          (upd_same _ _ _) (by rw [upd_ne _ _ (Ne.symm hne)]; exact hun) rfl rfl ⟨_, _, rfl⟩ ⟨rfl, rfl, rfl, rfl⟩ (fun _ _ => rfl)
          (fun mem' => by
            refine ⟨fun r hr => ?_, .inr ⟨by rw [upd_same]; exact hn, by rw [upd_same]; simp; omega, c1, t1, by rw [upd_same]; exact j3, by rw [upd_same]; simpa using j4, fun i j r x hr hx => ?_⟩⟩
            · simp only [List.mem_map] at hr; obtain ⟨s, _, rfl⟩ := hr; rfl
            · simp only [List.getElem?_map, Option.map_eq_some_iff] at hr
              obtain ⟨s, hs, rfl⟩ := hr
              cases j with
              | succ j => simp at hx
              | zero =>
                simp at hx; subst hx
                have hi : i < (compM l).length := (List.getElem?_eq_some_iff.1 hs).1
                refine ⟨.string s, ?_, RepC.str s⟩
                rw [upd_same, Nat.mul_one, Nat.add_zero]
                exact j5 i s (by rw [List.getElem?_append_left hi]; exact hs))
        have hmem : upd (upd (upd mem id (.arr 1 ((compM l ++ List.replicate (l.length - (Lib.compact (l.map tl)).length) (bl [])).map tx))) id .dead) nid (.arr 1 ((compM l).map tx)) = upd (upd mem id .dead) nid (.arr 1 ((compM l).map tx)) := by
          congr 1; rw [upd_upd]
        rw [hmem] at m2 e2
        exact ⟨_, .one (.ms nid), _, nid + 1, _, F, X, rfl, hK, m2, hfr _, by simp [VR, V0, V1, hdr, hn, hcml], e1.trans e2⟩
end Go.Proofs.K
/- What Sort and Compact make of lists of texts. -/
namespace Go.Proofs.K
open Go Go.Proofs Go.IntWalk

theorem tl_inj {a b : ByteArray} (h : tl a = tl b) : a = b := by rw [← bl_tl a, ← bl_tl b, h]
theorem sls_tl (a b : ByteArray) : sls a b = decide (tl a < tl b) := sls_eq a b

def leL : List UInt8 → List UInt8 → Bool := fun x y => decide (x ≤ y)
theorem sort_sorted (zs : List (List UInt8)) : (zs.mergeSort fun x y => decide (x ≤ y)).Pairwise fun x y => x ≤ y := by
  have := List.pairwise_mergeSort (le := fun x y : List UInt8 => decide (x ≤ y)) (fun a b c h1 h2 => by
    simp only [decide_eq_true_eq] at *; exact List.le_trans h1 h2) (fun a b => by
    simp only [Bool.or_eq_true, decide_eq_true_eq]; exact List.le_total a b) zs
  exact this.imp fun h => by simpa using h
theorem sort_mem (zs : List (List UInt8)) (x : List UInt8) : x ∈ (zs.mergeSort fun x y => decide (x ≤ y)) ↔ x ∈ zs := List.mem_mergeSort

theorem sortM_mem (l : List ByteArray) (x : ByteArray) : x ∈ sortM l ↔ x ∈ l := by
  unfold sortM
  rw [List.mem_map]
  constructor
  · rintro ⟨y, hy, rfl⟩
    rw [sort_mem, List.mem_map] at hy
    obtain ⟨z, hz, rfl⟩ := hy
    simpa using hz
  · intro h
    exact ⟨tl x, (sort_mem _ _).2 (List.mem_map_of_mem h), by simp⟩

theorem sortM_sorted (l : List ByteArray) : (sortM l).Pairwise fun a b => tl a ≤ tl b := by
  unfold sortM
  rw [List.pairwise_map]
  exact (sort_sorted _).imp fun h => by simpa using h

theorem sortM_perm (l : List ByteArray) : (sortM l).Perm l := by
  unfold sortM
  have h := (List.mergeSort_perm (l.map tl) fun x y => decide (x ≤ y)).map bl
  rw [List.map_map] at h
  have e : l.map (bl ∘ tl) = l := by
    rw [show (bl ∘ tl) = id from funext fun s => by simp]; simp
  rw [e] at h
  exact h

theorem le_cases {a b : List UInt8} (h : a ≤ b) : a < b ∨ a = b := by
  by_cases e : a = b
  · exact .inr e
  · left
    rcases Classical.em (a < b) with h1 | h1
    · exact h1
    · exact absurd (List.le_antisymm h (List.not_lt.1 h1)) e

/-- Of different texts. -/
theorem sortM_eq {l : List ByteArray} (h : l.Nodup) : sortM l = sortT l := by
  refine asc_ext ?_ (sortT_asc l) fun x => by rw [sortM_mem, sortT_mem]
  have hnd : (sortM l).Nodup := (sortM_perm l).nodup_iff.2 h
  have := (sortM_sorted l).and hnd
  refine this.imp fun {a b} hab => ?_
  rw [sls_tl, decide_eq_true_eq]
  rcases le_cases hab.1 with h1 | h1
  · exact h1
  · exact absurd (tl_inj h1) hab.2

theorem get_bang {zs : List (List UInt8)} {j : Nat} (h : j < zs.length) : zs.toArray[j]! = zs[j] := by
  rw [getElem!_pos _ j (by simpa using h)]; simp

theorem compact_mem (zs : List (List UInt8)) (x : List UInt8) : x ∈ Lib.compact zs ↔ x ∈ zs := by
  unfold Lib.compact Lib.compactUpTo
  rw [List.mem_map]
  constructor
  · rintro ⟨j, hj, rfl⟩
    rw [List.mem_filter, List.mem_range] at hj
    rw [get_bang hj.1]; exact List.getElem_mem _
  · intro hx
    obtain ⟨j, hj, rfl⟩ := List.getElem_of_mem hx
    induction j with
    | zero => exact ⟨0, by rw [List.mem_filter, List.mem_range]; exact ⟨hj, by simp [Lib.keeps]⟩, get_bang hj⟩
    | succ j ih =>
      by_cases e : zs[j + 1] = zs[j]
      · rw [e]
        exact ih (by omega) (List.getElem_mem _)
      · refine ⟨j + 1, ?_, get_bang hj⟩
        rw [List.mem_filter, List.mem_range]
        refine ⟨hj, Lib.keeps_pos ?_⟩
        rw [get_bang hj, show j + 1 - 1 = j by omega, get_bang (by omega)]
        exact e

theorem compact_lt {zs : List (List UInt8)} (h : zs.Pairwise fun x y => x ≤ y) : (Lib.compact zs).Pairwise fun x y => x < y := by
  rw [List.pairwise_iff_getElem] at h
  unfold Lib.compact Lib.compactUpTo
  rw [List.pairwise_map]
  have hr : (List.range zs.length).Pairwise fun i j => i < j := List.pairwise_lt_range
  have h2 := hr.filter (Lib.keeps zs.toArray)
  rw [List.pairwise_iff_getElem] at h2 ⊢
  intro i j hi hj hij
  have hlt := h2 i j hi hj hij
  have m1 := List.getElem_mem hi
  have m2 := List.getElem_mem hj
  generalize ((List.range zs.length).filter (Lib.keeps zs.toArray))[i] = a at *
  generalize ((List.range zs.length).filter (Lib.keeps zs.toArray))[j] = b at *
  rw [List.mem_filter, List.mem_range] at m1 m2
  obtain ⟨hb, hk⟩ := m2
  rw [get_bang m1.1, get_bang hb]
  unfold Lib.keeps at hk
  rw [decide_eq_true_eq] at hk
  rcases hk with hk | hk
  · omega
  · rw [get_bang hb, get_bang (by omega)] at hk
    have hab : zs[a] ≤ zs[b - 1] := by
      by_cases e : a = b - 1
      · subst e; exact List.le_refl _
      · exact h a (b - 1) m1.1 (by omega) (by omega)
    have hbb : zs[b - 1] < zs[b] := by
      rcases le_cases (h (b - 1) b (by omega) hb (by omega)) with h3 | h3
      · exact h3
      · exact absurd h3.symm hk
    exact List.lt_of_le_of_lt hab hbb

/-- Sorted and each once. -/
theorem compM_sortM (l : List ByteArray) : compM (sortM l) = sortT l := by
  refine asc_ext ?_ (sortT_asc l) fun x => ?_
  · unfold compM Asc
    rw [List.pairwise_map]
    have hs : ((sortM l).map tl).Pairwise fun x y => x ≤ y := by rw [List.pairwise_map]; exact sortM_sorted l
    exact (compact_lt hs).imp fun h => by rw [sls_tl]; simpa using h
  · rw [sortT_mem, ← sortM_mem l x]
    unfold compM
    rw [List.mem_map]
    constructor
    · rintro ⟨y, hy, rfl⟩
      rw [compact_mem, List.mem_map] at hy
      obtain ⟨z, hz, rfl⟩ := hy
      simpa using hz
    · intro h
      exact ⟨tl x, (compact_mem _ _).2 (List.mem_map_of_mem h), by simp⟩
end Go.Proofs.K
/- The names that the program finds needed. -/
namespace Go.Proofs.K
open Go Go.Proofs Go.IntWalk

/-- The program's round: what stands behind k parameters: how many were found by place, and the needed names; none where one by place alone lacks a value. -/
def needR (ps : List Param) (n : Nat) (k : Nat) : Option (List ByteArray) :=
  if ((ps.take k).drop n).all (fun p => !(p.kind == 0 && !p.hasDefault)) then some (needL n 0 (ps.take k)) else none

theorem needL_app (n : Int) : ∀ (a b : List Param) (i : Nat), needL n i (a ++ b) = needL n i a ++ needL n (i + a.length) b
  | [], b, i => by simp [needL]
  | p :: a, b, i => by
    have h := needL_app n a b (i + 1)
    rw [List.cons_append]
    simp only [needL, h, List.length_cons]
    rw [show i + (a.length + 1) = i + 1 + a.length by omega]
    split <;> simp

theorem needL_take (n : Int) (ps : List Param) (k : Nat) (h : k < ps.length) :
    needL n 0 (ps.take (k + 1)) = needL n 0 (ps.take k) ++ (if ps[k].opn k n && !ps[k].hasDefault then [ps[k].name] else []) := by
  rw [List.take_add_one, List.getElem?_eq_getElem h, Option.toList, needL_app]
  simp only [List.length_take, Nat.zero_add, Nat.min_eq_left (Nat.le_of_lt h), needL]

theorem drop_take_all {q : Param → Bool} {ps : List Param} {n k : Nat} (h : k < ps.length) : ((ps.take (k + 1)).drop n).all q = (((ps.take k).drop n).all q && (decide (k < n) || q ps[k])) := by
  rw [List.take_add_one, List.getElem?_eq_getElem h, Option.toList]
  by_cases hkn : k < n
  · rw [List.drop_of_length_le (by simp; omega), List.drop_of_length_le (by simp; omega)]
    simp [hkn]
  · rw [List.drop_append_of_le_length (by simp; omega)]
    simp [hkn]

/-- In a valid signature as many as stand ahead have been found by place. -/
theorem cnt_placed {ps : List Param} (h : sigOk ps = true) {k : Nat} (hk : k < ps.length) (hp : ps[k].placed = true) : cnt Param.placed (ps.take k) = k := by
  have h1 := cnt_ge (q := Param.placed) (l := ps.take k) (k := k) (by simp; omega) (fun j hj hjk => by
    simp only [List.getElem_take]
    have hm := sigOk_mono h j k hk (by omega)
    have ho := sigOk_ok h j (by omega)
    simp only [Param.ok, inR, Bool.and_eq_true, decide_eq_true_eq] at ho
    simp only [Param.placed, Bool.or_eq_true, beq_iff_eq] at hp ⊢
    omega)
  have h2 := cnt_le (q := Param.placed) (l := ps.take k)
  simp at h2
  omega

theorem needL_nodup {ps : List Param} (h : sigOk ps = true) (n : Nat) : (needL n 0 ps).Nodup := by
  have hsub : ∀ (l : List Param) (i : Nat), (needL n i l).Sublist (l.map Param.name) := by
    intro l
    induction l with
    | nil => intro i; simp [needL]
    | cons p l ih =>
      intro i
      simp only [needL, List.map_cons]
      split
      · exact (ih (i + 1)).cons_cons _
      · exact (ih (i + 1)).cons _
  refine (hsub ps 0).nodup ?_
  rw [List.nodup_iff_pairwise_ne, List.pairwise_map, List.pairwise_iff_getElem]
  intro i j hi hj hij
  exact sigOk_names_lt h j i hj hij
end Go.Proofs.K
/- What the program's bind gives, told by what the reference's bound gives. -/
namespace Go.Proofs.K
open Go Go.Proofs Go.IntWalk

def left1 (ps : List Param) (pl : List Int) (k : Nat) : List Int := if (ps.take k).any (fun p => p.kind == 2) = true then [] else pl.drop (min k (cnt Param.placed ps))
def slot1 (ps : List Param) (pl : List Int) (k j : Nat) : Slot :=
  if j < k then (if ((ps.getD j default).placed && decide (j < pl.length)) = true then ⟨true, [pl.getD j 0], []⟩ else if ((ps.getD j default).kind == 2) = true then ⟨false, pl.drop (cnt Param.placed ps), []⟩ else ⟨false, [], []⟩) else ⟨false, [], []⟩
def slots1 (ps : List Param) (pl : List Int) (k : Nat) : List Slot := (List.range ps.length).map (slot1 ps pl k)

theorem slots1_len (ps : List Param) (pl : List Int) (k : Nat) : (slots1 ps pl k).length = ps.length := by simp [slots1]
theorem slots1_get {ps : List Param} {pl : List Int} {k j : Nat} (h : j < ps.length) : (slots1 ps pl k)[j]'(by rw [slots1_len]; exact h) = slot1 ps pl k j := by simp [slots1]
theorem slots1_zero (ps : List Param) (pl : List Int) : (slots1 ps pl 0).map Slot.c = List.replicate ps.length [.bool false, .lst [], .lst []] := by
  apply List.ext_getElem
  · simp [slots1]
  · intro j h1 h2
    simp [slots1, slot1]

section
variable {ps : List Param} {pl : List Int} {k : Nat}

theorem any_take (hk : k < ps.length) : (ps.take (k + 1)).any (fun p => p.kind == 2) = ((ps.take k).any (fun p => p.kind == 2) || ps[k].kind == 2) := by
  rw [List.take_add_one, List.getElem?_eq_getElem hk]
  simp only [Option.toList, List.any_append, List.any_cons, List.any_nil, Bool.or_false]

/-- Ahead of one whose kind is at most 2 there is none of the rest. -/
theorem no_rest (h : sigOk ps = true) (hk : k < ps.length) (hle : ps[k].kind ≤ 2) : (ps.take k).any (fun p => p.kind == 2) = false := by
  rw [List.any_eq_false]
  intro p hp
  obtain ⟨j, hj, rfl⟩ := List.getElem_of_mem hp
  simp only [List.getElem_take, List.length_take] at hj ⊢
  intro hc
  have hc' : ps[j].kind = 2 := by simpa using hc
  have h1 := sigOk_mono h j (j + 1) (by omega) (by omega)
  have h2 := sigOk_mono h (j + 1) k hk (by omega)
  have h3 := (sigOk_at h).1 (j + 1) (by omega)
  have hj' : j < ps.length := by omega
  unfold goodAt badBy at h3
  simp only [hj', List.getElem?_eq_getElem, Bool.and_eq_true, Bool.not_eq_true', Bool.or_eq_false_iff] at h3
  have h4 := h3.2.1.2
  have he : ps[j + 1].kind = 2 := by omega
  have h5 : ps[j + 1].single = false := by simp [Param.single, Param.placed, he]
  rw [h5, he, hc'] at h4
  simp at h4

theorem left_placed (h : sigOk ps = true) (hk : k < ps.length) (hp : ps[k].placed = true) : left1 ps pl k = pl.drop k ∧ left1 ps pl (k + 1) = pl.drop (k + 1) := by
  have hlt := placed_lt h k hk hp
  have hkd : ps[k].kind ≤ 1 := by simp only [Param.placed, Bool.or_eq_true, beq_iff_eq] at hp; omega
  have h0 := no_rest h hk (by omega)
  have h1 : (ps.take (k + 1)).any (fun p => p.kind == 2) = false := by
    rw [any_take hk, h0]; simp; omega
  unfold left1
  rw [h0, h1]
  simp only [Bool.false_eq_true, if_false]
  rw [Nat.min_eq_left (by omega), Nat.min_eq_left (by omega)]
  exact ⟨rfl, rfl⟩

theorem cnt_np (h : sigOk ps = true) (hk : k < ps.length) (hp : ps[k].placed = false) : cnt Param.placed ps ≤ k := by
  rcases Nat.lt_or_ge k (cnt Param.placed ps) with h1 | h1
  · rw [placed_first h k hk h1] at hp; cases hp
  · exact h1

theorem left_other (h : sigOk ps = true) (hk : k < ps.length) (hp : ps[k].placed = false) (h2 : (ps[k].kind == 2) = false) : left1 ps pl (k + 1) = left1 ps pl k := by
  have := cnt_np h hk hp
  unfold left1
  rw [any_take hk, h2, Bool.or_false, Nat.min_eq_right (by omega), Nat.min_eq_right (by omega)]

theorem left_rest (h : sigOk ps = true) (hk : k < ps.length) (h2 : (ps[k].kind == 2) = true) : left1 ps pl k = pl.drop (cnt Param.placed ps) ∧ left1 ps pl (k + 1) = [] := by
  have h2' : ps[k].kind = 2 := by simpa using h2
  have hp : ps[k].placed = false := by simp [Param.placed, h2']
  have := cnt_np h hk hp
  unfold left1
  rw [any_take hk, h2, no_rest h hk (by omega), Nat.min_eq_right (by omega)]
  simp

theorem slots1_next (hk : k < ps.length) : slots1 ps pl (k + 1) = (slots1 ps pl k).set k (slot1 ps pl (k + 1) k) := by
  apply List.ext_getElem
  · simp [slots1]
  · intro j h1 h2
    have hj : j < ps.length := by simpa [slots1] using h1
    rw [List.getElem_set, slots1_get hj]
    by_cases e : k = j
    · subst e; simp
    · rw [if_neg e, slots1_get hj]
      unfold slot1
      have : j < k + 1 ↔ j < k := by omega
      simp only [this]
theorem slots1_at (hk : k < ps.length) : (slots1 ps pl k)[k]'(by rw [slots1_len]; exact hk) = ⟨false, [], []⟩ := by
  rw [slots1_get hk]; unfold slot1; simp
theorem slots1_same (hk : k < ps.length) (h : slot1 ps pl (k + 1) k = ⟨false, [], []⟩) : slots1 ps pl (k + 1) = slots1 ps pl k := by
  rw [slots1_next hk, h, ← slots1_at (pl := pl) hk, List.set_getElem_self]

theorem slot1_placed (hk : k < ps.length) (hp : ps[k].placed = true) (hl : k < pl.length) : slot1 ps pl (k + 1) k = ⟨true, [pl[k]], []⟩ := by
  unfold slot1; simp [hk, hp, hl]
theorem slot1_short (hk : k < ps.length) (hp : ps[k].placed = true) (hl : ¬ k < pl.length) : slot1 ps pl (k + 1) k = ⟨false, [], []⟩ := by
  have h2 : (ps[k].kind == 2) = false := by simp only [Param.placed, Bool.or_eq_true, beq_iff_eq] at hp; simp; omega
  unfold slot1; simp [hk, hp, hl, h2]
theorem slot1_rest (hk : k < ps.length) (h2 : (ps[k].kind == 2) = true) : slot1 ps pl (k + 1) k = ⟨false, pl.drop (cnt Param.placed ps), []⟩ := by
  have h2' : ps[k].kind = 2 := by simpa using h2
  have hp : ps[k].placed = false := by simp [Param.placed, h2']
  unfold slot1; simp [hk, hp, h2']
theorem slot1_none (hk : k < ps.length) (hp : ps[k].placed = false) (h2 : (ps[k].kind == 2) = false) : slot1 ps pl (k + 1) k = ⟨false, [], []⟩ := by
  unfold slot1; simp [hk, hp, h2]
end

theorem slots1_end {ps : List Param} {pl : List Int} (h : sigOk ps = true) :
    slots1 ps pl ps.length = (slotsA ps.length pl (cnt Param.placed ps) pl.length).modify (natOr (idxOf (fun p => p.kind == 2) ps) ps.length) fun s => { s with list := restA pl (cnt Param.placed ps) (idxOf (fun p => p.kind == 2) ps) pl.length } := by
  apply List.ext_getElem
  · simp [slots1, slotsA]
  · intro j h1 h2
    have hj : j < ps.length := by simpa [slots1] using h1
    rw [slots1_get hj, List.getElem_modify]
    simp only [slotsA, List.getElem_map, List.getElem_range]
    by_cases e : natOr (idxOf (fun p => p.kind == 2) ps) ps.length = j
    · rw [if_pos e]
      unfold natOr at e
      split at e
      · rename_i h0
        obtain ⟨n, hn, hnl, hq, _⟩ := idxOf_nat h0
        have : j = n := by rw [hn] at e; simpa using e.symm
        subst this
        have hp : ps[j].placed = false := by simp [Param.placed, show ps[j].kind = 2 by simpa using hq]
        have hc := cnt_np h hj hp
        unfold slot1 slotA restA
        rw [hn]
        simp [hj, hp, hq, show ¬ (j < cnt Param.placed ps ∧ j < pl.length) by omega, show ps[j].kind = 2 by simpa using hq]
      · omega
    · rw [if_neg e]
      unfold slot1 slotA
      have h2 : (ps[j].kind == 2) = false := by
        rw [Bool.eq_false_iff]; intro hc
        apply e
        have h0 := idxOf_nonneg (q := fun p : Param => p.kind == 2) hj hc
        obtain ⟨n, hn, hnl, hq, hlow⟩ := idxOf_nat h0
        unfold natOr
        rw [if_pos h0, hn]
        simp only [Int.toNat_natCast]
        rcases Nat.lt_trichotomy j n with h3 | h3 | h3
        · have := hlow j hj h3; rw [hc] at this; cases this
        · exact h3.symm
        · have h4 := no_rest h hj (by have : ps[j].kind = 2 := by simpa using hc
                                      omega)
          rw [List.any_eq_false] at h4
          exact absurd hq (h4 ps[n] (by
            have : ps[n] = (ps.take j)[n]'(by simp; omega) := by simp
            rw [this]; exact List.getElem_mem _))
      simp only [hj, if_true, List.getD, List.getElem?_eq_getElem hj, Option.getD_some, h2, Bool.false_eq_true, if_false]
      cases hp : ps[j].placed
      · have := cnt_np h hj hp
        rw [if_neg (by simp), if_neg (by omega)]
      · have := placed_lt h j hj hp
        by_cases hl : j < pl.length
        · rw [if_pos (by simp [hl]), if_pos ⟨this, hl⟩]
        · rw [if_neg (by simp [hl]), if_neg (by omega)]

theorem left_end {ps : List Param} {pl : List Int} : decide (0 < (left1 ps pl ps.length).length) = (decide (cnt Param.placed ps < pl.length) && decide (idxOf (fun p => p.kind == 2) ps < 0)) := by
  unfold left1
  rw [List.take_length, Nat.min_eq_right cnt_le]
  cases h : ps.any (fun p => p.kind == 2)
  · have : idxOf (fun p : Param => p.kind == 2) ps = -1 := idxOf_none fun j hj => by
      rw [List.any_eq_false] at h
      have := h ps[j] (List.getElem_mem hj)
      simpa using this
    rw [this]
    simp
    omega
  · rw [List.any_eq_true] at h
    obtain ⟨p, hp, hq⟩ := h
    obtain ⟨j, hj, rfl⟩ := List.getElem_of_mem hp
    have := idxOf_nonneg (q := fun p : Param => p.kind == 2) hj hq
    have hn : decide (idxOf (fun p : Param => p.kind == 2) ps < 0) = false := by simpa using this
    rw [hn]; simp

/-! ### The names, over slots of which one holds the rest -/
def withList (L : List Int) : Slot → Slot := fun s => { s with list := L }
theorem modify_given (L : List Int) (sl : List Slot) (r k : Nat) : ((sl.modify r (withList L)).getD k default).given = (sl.getD k default).given := by
  simp only [List.getD, List.getElem?_modify]
  cases sl[k]? with
  | none => simp
  | some s => simp only [Option.map_some, Option.getD_some]; split <;> rfl
theorem modify_set (L : List Int) (sl : List Slot) (r k : Nat) (v : Slot) (h : k ≠ r) : (sl.modify r (withList L)).set k v = (sl.set k v).modify r (withList L) := by
  apply List.ext_getElem
  · simp
  · intro j h1 h2
    simp only [List.getElem_set, List.getElem_modify]
    by_cases e1 : k = j
    · subst e1; simp [Ne.symm h]
    · simp [e1]

def NameS.mod (s : NameS) (L : List Int) (r : Nat) : NameS := { s with slots := s.slots.modify r (withList L) }
theorem nameStep_mod (ps : List Param) (L : List Int) (r : Nat) (s : NameS) (p : Pair) (h : 0 ≤ takesBy ps p.name → kd ps (tk ps p) ≠ 4 → tk ps p ≠ r) :
    nameStep ps (s.mod L r) p = (nameStep ps s p).mod L r := by
  unfold nameStep
  split
  · rfl
  · rename_i h0
    split
    · rfl
    · rename_i h4
      have hne := h (by omega) (by simpa [kd, tk] using h4)
      unfold NameS.mod
      simp only [modify_given]
      split
      · rfl
      · simp only [NameS.mk.injEq, and_true]
        exact modify_set L s.slots r _ _ hne

theorem nameS_mod (ps : List Param) (L : List Int) (r : Nat) (sl : List Slot) (b : List Problem) (l : List Pair) (h : ∀ p ∈ l, 0 ≤ takesBy ps p.name → kd ps (tk ps p) ≠ 4 → tk ps p ≠ r) :
    nameS ps (sl.modify r (withList L)) b l = (nameS ps sl b l).mod L r := by
  unfold nameS
  have : ∀ (l : List Pair) (s : NameS), (∀ p ∈ l, 0 ≤ takesBy ps p.name → kd ps (tk ps p) ≠ 4 → tk ps p ≠ r) → l.foldl (nameStep ps) (s.mod L r) = (l.foldl (nameStep ps) s).mod L r := by
    intro l
    induction l with
    | nil => intro s _; rfl
    | cons p l ih =>
      intro s hs
      rw [List.foldl_cons, List.foldl_cons, nameStep_mod ps L r s p (hs p (by simp)), ih _ fun q hq => hs q (by simp [hq])]
  exact this l ⟨sl, [], b⟩ h

theorem tk_rest {ps : List Param} (p : Pair) (h0 : 0 ≤ takesBy ps p.name) (h4 : kd ps (tk ps p) ≠ 4) : tk ps p ≠ natOr (idxOf (fun p => p.kind == 2) ps) ps.length := by
  rcases takesBy_cases (ps := ps) p.name with ⟨k, hk, hkt, _, hnm⟩ | h5
  · have e : tk ps p = k := by simp [tk, hkt]
    rw [e]
    intro hc
    unfold natOr at hc
    split at hc
    · rename_i h6
      obtain ⟨n, hn, hnl, hq, _⟩ := idxOf_nat h6
      have : k = n := by rw [hn] at hc; simpa using hc
      subst this
      simp only [Param.named, Bool.or_eq_true, beq_iff_eq] at hnm hq
      omega
    · omega
  · obtain ⟨k, hk, hkt, hk4⟩ := idx4 (ps := ps) (by rw [← h5]; exact h0)
    exfalso
    apply h4
    rw [hkt] at h5
    simp [tk, kd, h5, hk, hk4, List.getD]

/-- The program's slots and problems ahead of what is missing. -/
def bindS (ps : List Param) (f : Flat) : NameS := nameS ps (slots1 ps f.places ps.length) (bad0 ps f) f.names
theorem bindS_eq {ps : List Param} (h : sigOk ps = true) (f : Flat) :
    bindS ps f = (boundS ps f).mod (restA f.places (cnt Param.placed ps) (idxOf (fun p => p.kind == 2) ps) f.places.length) (natOr (idxOf (fun p => p.kind == 2) ps) ps.length) := by
  unfold bindS boundS
  rw [slots1_end h]
  exact nameS_mod ps _ _ _ _ _ fun p _ h0 h4 => tk_rest p h0 h4
theorem bindS_slots {ps : List Param} (h : sigOk ps = true) (f : Flat) : (bindS ps f).slots.modify (natOr (idxOf (fun p => p.kind == 4) ps) ps.length) (fun s => { s with pairs := (bindS ps f).pairs }) = boundSlots ps f := by
  rw [bindS_eq h]; rfl
theorem bindS_bad {ps : List Param} (h : sigOk ps = true) (f : Flat) : (bindS ps f).bad = (boundS ps f).bad := by rw [bindS_eq h]; rfl
end Go.Proofs.K
/- Valid flat calls. -/
namespace Go.Proofs.K
open Go Go.Proofs Go.IntWalk

def pairOk (p : Pair) : Bool := nameOk p.name && inR p.value (-99) 99
def flatG (l : List Pair) (i : Nat) : Bool := pairOk (l.getD i default) && !decide (0 ≤ idxOf (fun p => decide (p.name = (l.getD i default).name)) (l.take i))
def namesG (l : List Pair) : Bool := (List.range l.length).all (flatG l)
def valsOk (l : List Int) : Bool := l.all fun n => inR n (-99) 99
def flatOk (f : Flat) : Bool := namesG f.names && (decide (f.places.length ≤ 8) && (decide (f.names.length ≤ 8) && valsOk f.places))

theorem namesG_no {l : List Pair} {k : Nat} (h : k < l.length) (hb : flatG l k = false) : namesG l = false := by
  unfold namesG
  rw [List.all_eq_false]
  exact ⟨k, by simpa using h, by simp [hb]⟩
theorem namesG_yes {l : List Pair} (h : ∀ k, k < l.length → flatG l k = true) : namesG l = true := by
  unfold namesG
  rw [List.all_eq_true]
  intro k hk; exact h k (by simpa using hk)
theorem namesG_at {l : List Pair} (h : namesG l = true) (k : Nat) (hk : k < l.length) : pairOk l[k] = true ∧ ∀ j (hj : j < k), l[j].name ≠ l[k].name := by
  unfold namesG at h
  rw [List.all_eq_true] at h
  have h1 := h k (by simpa using hk)
  unfold flatG at h1
  simp only [List.getD, List.getElem?_eq_getElem hk, Option.getD_some, Bool.and_eq_true, Bool.not_eq_true', decide_eq_false_iff_not] at h1
  refine ⟨h1.1, fun j hj e => h1.2 (idxOf_nonneg (k := j) (by simp; omega) ?_)⟩
  simpa using e
theorem namesG_of {l : List Pair} (h1 : ∀ p ∈ l, pairOk p = true) (h2 : (l.map Pair.name).Nodup) : namesG l = true := by
  refine namesG_yes fun k hk => ?_
  unfold flatG
  simp only [List.getD, List.getElem?_eq_getElem hk, Option.getD_some, h1 l[k] (List.getElem_mem _), Bool.true_and]
  rw [idxOf_none fun j hj => ?_]
  · rfl
  · simp only [List.length_take] at hj
    simp only [List.getElem_take, decide_eq_false_iff_not]
    intro e
    rw [List.nodup_iff_pairwise_ne, List.pairwise_map, List.pairwise_iff_getElem] at h2
    exact h2 j k (by omega) hk (by omega) e
theorem namesG_nodup {l : List Pair} (h : namesG l = true) : (l.map Pair.name).Nodup := by
  rw [List.nodup_iff_pairwise_ne, List.pairwise_map, List.pairwise_iff_getElem]
  intro i j hi hj hij
  exact (namesG_at h j hj).2 i hij

/-- The flat call of a valid shape is valid. -/
theorem flatOk_shape {x : Shape} (h : shapeOk x = true) : flatOk (flatOfS x) = true := by
  unfold shapeOk at h
  simp only [Bool.and_eq_true, decide_eq_true_eq] at h
  obtain ⟨⟨h1, h2⟩, h3⟩ := h
  rw [namesOk_iff] at h1
  unfold inR at h2
  simp only [Bool.and_eq_true, decide_eq_true_eq] at h2
  unfold flatOk
  simp only [Bool.and_eq_true, decide_eq_true_eq]
  refine ⟨namesG_of (fun p hp => ?_) (by rw [flatOfS_names]; exact h1.2.nodup), by simp [flatOfS]; omega, by simp [flatOfS]; omega, ?_⟩
  · simp only [flatOfS, List.mem_map] at hp
    obtain ⟨s, hs, rfl⟩ := hp
    simp [pairOk, h1.1 s hs, inR]
  · unfold valsOk
    rw [List.all_eq_true]
    intro n hn
    simp only [flatOfS] at hn
    rw [List.eq_of_mem_replicate hn]; rfl
end Go.Proofs.K
/- What the laws reckon of the sizes of their arguments. -/
namespace Go.Proofs.K
open Go Go.Proofs Go.IntWalk

/-- Big is all that an argument may be. -/
@[reducible] def Big (n : Nat) : Prop := n ≤ 9223372036854775807

structure SBig (ps : List Param) : Prop where
  len : Big ps.length
  names : ∀ p ∈ ps, Big p.name.size

def lessZ (n : Int) (k : Nat) : Int := if n - k < 0 then -1 else n - k
def szP : List Param → Int → Int
  | [], n => n
  | p :: ps, n => if n - p.name.size < 0 then -1 else szP ps (n - p.name.size)
def szPs (ps : List Param) (n : Int) : Int := if n - ps.length < 0 then -1 else szP ps (n - ps.length)

theorem szP_le : ∀ (ps : List Param) (n : Int), szP ps n ≤ n ∨ szP ps n = -1 := by
  intro ps
  induction ps with
  | nil => intro n; exact .inl (Int.le_refl _)
  | cons p ps ih =>
    intro n
    simp only [szP]
    split
    · exact .inr rfl
    · rcases ih (n - p.name.size) with h | h
      · exact .inl (by omega)
      · exact .inr h
theorem szP_names : ∀ (ps : List Param) (n : Int), 0 ≤ szP ps n → ∀ p ∈ ps, (p.name.size : Int) ≤ n := by
  intro ps
  induction ps with
  | nil => intro n _ p hp; cases hp
  | cons q ps ih =>
    intro n h p hp
    simp only [szP] at h
    split at h
    · omega
    · rcases List.mem_cons.1 hp with rfl | hp
      · omega
      · have := ih _ h p hp
        omega
theorem szP_ge : ∀ (ps : List Param) (n : Int), 0 ≤ n → -1 ≤ szP ps n := by
  intro ps
  induction ps with
  | nil => intro n h; simp only [szP]; omega
  | cons p ps ih =>
    intro n h
    simp only [szP]
    split
    · omega
    · exact ih _ (by omega)
theorem szPs_ge (ps : List Param) (n : Int) : -1 ≤ szPs ps n := by
  unfold szPs
  split
  · omega
  · exact szP_ge _ _ (by omega)
theorem szPs_le (ps : List Param) (n : Int) : szPs ps n ≤ n ∨ szPs ps n = -1 := by
  unfold szPs
  split
  · exact .inr rfl
  · rcases szP_le ps (n - ps.length) with h | h
    · exact .inl (by omega)
    · exact .inr h
theorem szPs_fit {ps : List Param} {n : Int} (h : 0 ≤ szPs ps n) : (ps.length : Int) ≤ n ∧ ∀ p ∈ ps, (p.name.size : Int) ≤ n := by
  unfold szPs at h
  split at h
  · omega
  · have := szP_names _ _ h
    exact ⟨by omega, fun p hp => by have := this p hp; omega⟩
theorem szPs_sfit {ps : List Param} {n : Int} (h : 0 ≤ szPs ps n) (hn : n ≤ 1048576) : SFit ps := by
  obtain ⟨h1, h2⟩ := szPs_fit h
  exact ⟨by omega, fun p hp => by have := h2 p hp; omega⟩

theorem set_grow {α : Type} (l : List α) (z : α) (k : Nat) (h : k < l.length) (y : α) (hy : y = l[k]) : (l.take k ++ List.replicate (l.length - k) z).set k y = l.take (k + 1) ++ List.replicate (l.length - (k + 1)) z := by
  subst hy
  rw [List.set_append_right _ _ (by simp; omega)]
  have e : l.length - k = (l.length - (k + 1)) + 1 := by omega
  have e2 : k - (l.take k).length = 0 := by simp; omega
  rw [e, e2, List.replicate_succ, List.set_cons_zero, List.take_add_one, List.getElem?_eq_getElem h, List.append_assoc]
  rfl

/-- An array that is filled from its start. -/
def growR (l : List (List C)) (z : List C) (k : Nat) : List (List C) := l.take k ++ List.replicate (l.length - k) z
theorem growR_zero (l : List (List C)) (z : List C) : growR l z 0 = List.replicate l.length z := by simp [growR]
theorem growR_all (l : List (List C)) (z : List C) (k : Nat) (h : l.length ≤ k) : growR l z k = l := by
  unfold growR
  rw [List.take_of_length_le h, show l.length - k = 0 by omega]; simp
theorem growR_len (l : List (List C)) (z : List C) (k : Nat) : (growR l z k).length = l.length := by unfold growR; simp; omega
theorem growR_set (l : List (List C)) (z : List C) (k : Nat) (h : k < l.length) : (growR l z k).set k l[k] = growR l z (k + 1) := set_grow l z k h _ rfl
theorem growR_drop {l : List (List C)} {z : List C} {k n : Nat} (h : ∀ r ∈ l, r.length = n) (hz : z.length = n) : ∀ (i : Nat) (hi : i < (growR l z k).length), ((growR l z k)[i]).drop n = [] := fun i hi => by
  have hm : (growR l z k)[i] ∈ growR l z k := List.getElem_mem _
  generalize (growR l z k)[i] = r at *
  unfold growR at hm
  rcases List.mem_append.1 hm with hm | hm
  · exact List.drop_of_length_le (by rw [h r (List.mem_of_mem_take hm)]; omega)
  · rw [List.eq_of_mem_replicate hm]; exact List.drop_of_length_le (by omega)
end Go.Proofs.K
