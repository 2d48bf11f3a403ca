/- The words for simp, ghost steps, arguments read as data. -/
import Derived.Test.YtbaekjnfijmakaaGreatDoorKb
import Derived.ChangeArms
import Derived.DataReads
set_option linter.unnecessarySimpa false
set_option linter.unusedSimpArgs false
set_option linter.unusedVariables false
/- The words that are unfolded when code is evaluated. -/
namespace Go.Proofs.K
open Go Go.RowKit

theorem upd_apply {α : Type} (f : Nat → α) (i : Nat) (v : α) (j : Nat) : upd f i v j = if j = i then v else f j := rfl
theorem initE_apply (ps : List PV) (t : Nat) : initE ps t = ps.getD t vnone := rfl
theorem mem0_apply (i : Nat) : mem0 i = .un := rfl
theorem stOf_env (keep : Nat) (c : Canon) : (stOf keep c).env = envOf c.env := rfl
theorem stOf_mem (keep : Nat) (c : Canon) : (stOf keep c).mem = memK keep c.mem := rfl
theorem stOf_nid (keep : Nat) (c : Canon) : (stOf keep c).nid = c.nid := rfl

attribute [simp] upd_apply initE_apply mem0_apply stOf
attribute [simp] opF getO partsO mapO argsO putE dOk pickV capsO clipF srcRows appF storeF
attribute [simp] convB numsOf tkElem noMs capF appZ cutF tkSl binF intOp strOp unF convF lenF tkLen tkBool indexF fieldF idxF bndF sliceF makeF zeroRow buildF fillP litF partsOk litRows litCells
attribute [simp] loadF loadRow p1IsAgg TI.plain PV.cells okCells live1 toC1 rowC frzL splice p1Of gSlot
attribute [simp] retK resF resL notTup retC expR expV expVs expL exp1 expIds cellsL pos rowsAt
attribute [simp] datA datV datL dat1 flatC flat0 flat1 flatV flatM shV sh0 sh1 shM
attribute [simp] norm autoR name lowR boxIds idsS idsL ids1 isLive toNew toOld envL memL renV ren0 ren1 renB renCap envOf memK updL
attribute [simp] Op.operands Call.operands keysOf opIds idsV


section
variable {P : Program} {keep sz : Nat}

theorem ite_form (b want : Bool) (X Y : Prop) : ((b = want → X) ∧ (b = (!want) → Y)) = if b = want then X else Y := by
  cases b <;> cases want <;> simp

/-- A branch: told apart by whoever reads it. -/
def br (b : Bool) (F G : St → Prop) (st : St) : Prop := if b = true then F st else G st
@[simp] theorem br_t (F G : St → Prop) (st : St) : br true F G st = F st := rfl
@[simp] theorem br_f (F G : St → Prop) (st : St) : br false F G st = G st := rfl
@[simp] theorem br_n (b : Bool) (F G : St → Prop) (st : St) : br (!b) F G st = br b G F st := by cases b <;> rfl
theorem br_i {b : Bool} {F G : St → Prop} {st : St} (h : b = true → F st) (k : b = false → G st) : br b F G st := by cases b; exact k rfl; exact h rfl
theorem br_form (b want : Bool) (F G : St → Prop) (st : St) : (if b = want then F st else G st) = br (bif want then b else !b) F G st := by
  cases b <;> cases want <;> rfl

/-- What follows, by name: so that it is not evaluated ahead of its time. -/
def seqK (P : Program) (keep sz : Nat) (y : Code) (Q : Exit → St → Prop) : Exit → St → Prop := thenK Q fun st' => awp P keep sz y st' Q
def normK (Q : Exit → St → Prop) : St → Prop := Q .normal
def opsK (P : Program) (sz : Nat) (ops : Array Oper) (os : List Oper) (K : St → Prop) : St → Prop := fun st => evOps P sz ops os st K
def codeK (P : Program) (keep sz : Nat) (y : Code) (Q : Exit → St → Prop) : St → Prop := fun st => awp P keep sz y st Q
def runK (P : Program) (sz : Nat) (ops : Array Oper) (o : Oper) (os : List Oper) (K : St → Prop) : St → Prop := fun st => evOp P o.op o.dst sz st (opsK P sz ops os K)
def skipK (P : Program) (sz : Nat) (ops : Array Oper) (o : Oper) (os : List Oper) (K : St → Prop) : St → Prop := fun st => dOk sz o.dst = true ∧ evOps P sz ops os ⟨putE st.env o.dst vnone, st.mem, st.nid⟩ K
@[simp] theorem codeK_a (y : Code) (Q : Exit → St → Prop) (st : St) : codeK P keep sz y Q st = awp P keep sz y st Q := rfl
@[simp] theorem runK_a (ops : Array Oper) (o : Oper) (os : List Oper) (K : St → Prop) (st : St) : runK P sz ops o os K st = evOp P o.op o.dst sz st (opsK P sz ops os K) := rfl
@[simp] theorem skipK_a (ops : Array Oper) (o : Oper) (os : List Oper) (K : St → Prop) (st : St) : skipK P sz ops o os K st = (dOk sz o.dst = true ∧ evOps P sz ops os ⟨putE st.env o.dst vnone, st.mem, st.nid⟩ K) := rfl
def callK (env : Env) (dst : Option Tmp) (K : St → Prop) : PV → Mem → Nat → Prop := fun r mem nid => K ⟨putE env dst r, mem, nid⟩
def endK {α : Type} (keep : Nat) (slots : List Nat) (canon : α → Canon) (I : α → Prop) (μ : α → Nat) (x : α) : St → Prop := fun st' => ∃ x', norm keep slots st' = canon x' ∧ I x' ∧ μ x' < μ x
def loopK (Q : Exit → St → Prop) (R : St → Prop) : Exit → St → Prop := thenK Q R

@[simp] theorem seqK_n (y : Code) (Q : Exit → St → Prop) (st : St) : seqK P keep sz y Q .normal st = awp P keep sz y st Q := rfl
@[simp] theorem seqK_e (y : Code) (Q : Exit → St → Prop) (st : St) (i : Nat) : seqK P keep sz y Q (.exit i) st = Q (.exit i) st := rfl
@[simp] theorem seqK_r (y : Code) (Q : Exit → St → Prop) (st : St) : seqK P keep sz y Q .ret st = Q .ret st := rfl
@[simp] theorem loopK_n (Q : Exit → St → Prop) (R : St → Prop) (st : St) : loopK Q R .normal st = R st := rfl
@[simp] theorem loopK_e (Q : Exit → St → Prop) (R : St → Prop) (st : St) (i : Nat) : loopK Q R (.exit i) st = Q (.exit i) st := rfl
@[simp] theorem loopK_r (Q : Exit → St → Prop) (R : St → Prop) (st : St) : loopK Q R .ret st = Q .ret st := rfl
@[simp] theorem inBlk_n (id : Nat) (Q : Exit → St → Prop) (st : St) : inBlk id Q .normal st = Q .normal st := rfl
@[simp] theorem inBlk_e (id id' : Nat) (Q : Exit → St → Prop) (st : St) : inBlk id Q (.exit id') st = if id' = id then Q .normal st else Q (.exit id') st := rfl
@[simp] theorem inBlk_r (id : Nat) (Q : Exit → St → Prop) (st : St) : inBlk id Q .ret st = Q .ret st := rfl
@[simp] theorem normK_a (Q : Exit → St → Prop) (st : St) : normK Q st = Q .normal st := rfl
@[simp] theorem opsK_a (ops : Array Oper) (os : List Oper) (K : St → Prop) (st : St) : opsK P sz ops os K st = evOps P sz ops os st K := rfl
@[simp] theorem callK_a (env : Env) (dst : Option Tmp) (K : St → Prop) (r : PV) (mem : Mem) (nid : Nat) : callK env dst K r mem nid = K ⟨putE env dst r, mem, nid⟩ := rfl
@[simp] theorem endK_a {α : Type} (slots : List Nat) (canon : α → Canon) (I : α → Prop) (μ : α → Nat) (x : α) (st' : St) :
    endK keep slots canon I μ x st' = ∃ x', norm keep slots st' = canon x' ∧ I x' ∧ μ x' < μ x := rfl

@[simp] theorem awp_skip (st : St) (Q : Exit → St → Prop) : awp P keep sz .skip st Q = Q .normal st := rfl
@[simp] theorem awp_seq (x y : Code) (st : St) (Q : Exit → St → Prop) : awp P keep sz (.seq x y) st Q = awp P keep sz x st (seqK P keep sz y Q) := rfl
@[simp] theorem awp_cond (c : Operand) (x y : Code) (st : St) (Q : Exit → St → Prop) : awp P keep sz (.cond c x y) st Q = match getO st.env c with
    | .one (.c (.bool b)) => br b (codeK P keep sz x Q) (codeK P keep sz y Q) st
    | .one .anyb => awp P keep sz x st Q ∧ awp P keep sz y st Q
    | _ => False := by
  show (match getO st.env c with
    | .one (.c (.bool b)) => (b = true → awp P keep sz x st Q) ∧ (b = false → awp P keep sz y st Q)
    | .one .anyb => awp P keep sz x st Q ∧ awp P keep sz y st Q
    | _ => False) = _
  split
  · rename_i b _; cases b <;> simp [br, codeK]
  · rfl
  · rfl
@[simp] theorem awp_block (id : Nat) (c : Code) (st : St) (Q : Exit → St → Prop) : awp P keep sz (.block id c) st Q = awp P keep sz c st (inBlk id Q) := rfl
@[simp] theorem awp_exit (id : Nat) (st : St) (Q : Exit → St → Prop) : awp P keep sz (.exit id) st Q = Q (.exit id) st := rfl
@[simp] theorem awp_ret (st : St) (Q : Exit → St → Prop) : awp P keep sz .ret st Q = Q .ret st := rfl
@[simp] theorem awp_region (id : Nat) (ops : Array Oper) (st : St) (Q : Exit → St → Prop) : awp P keep sz (.region id ops false) st Q = evOps P sz ops ops.toList st (normK Q) := rfl
theorem awp_draw (id : Nat) (ops : Array Oper) (st : St) (Q : Exit → St → Prop) : awp P keep sz (.region id ops true) st Q = AW P keep sz (.region id ops true) st Q := rfl
theorem awp_loop (c : Code) (st : St) (Q : Exit → St → Prop) : awp P keep sz (.loop c) st Q = AW P keep sz (.loop c) st Q := rfl

@[simp] theorem evOps_nil (ops : Array Oper) (st : St) (K : St → Prop) : evOps P sz ops [] st K = K st := rfl
@[simp] theorem evOps_cons (ops : Array Oper) (o : Oper) (os : List Oper) (st : St) (K : St → Prop) : evOps P sz ops (o :: os) st K =
    match o.guard with
    | none => evOp P o.op o.dst sz st (opsK P sz ops os K)
    | some (j, want) =>
      match gSlot ops j with
      | some t => (match st.env t with
        | .one (.c (.bool b)) => br (bif want then b else !b) (runK P sz ops o os K) (skipK P sz ops o os K) st
        | .tup [] => dOk sz o.dst = true ∧ evOps P sz ops os ⟨putE st.env o.dst vnone, st.mem, st.nid⟩ K
        | _ => False)
      | none => False := by
  rw [evOps]
  split
  · rename_i h; simp only [h]; rfl
  · rename_i j want h
    simp only [h]
    split
    · rename_i t h2
      simp only [h2]
      split
      · rename_i b h3
        simp only [h3]
        rw [← br_form]; exact ite_form b want _ _
      · rename_i h3; simp only [h3]
      · rename_i h3 h4
        split
        · rename_i b h5; exact absurd h5 (h3 b)
        · rename_i h5; exact absurd h5 h4
        · rfl
    · rename_i h2; simp only [h2]

def isCallV : Op → Option (Operand × List Operand)
  | .call { callee := .value f, args, argTypes := _ } => some (f, args.toList)
  | _ => none
attribute [simp] isCallV

theorem evOp_eq (o : Op) (dst : Option Tmp) (st : St) (K : St → Prop) : evOp P o dst sz st K = match isCallV o with
    | some (f, args) => dOk sz dst = true ∧ SCall P (getO st.env f) (argsO st.env args) st.mem st.nid (callK st.env dst K)
    | none => (match opF P st.env st.mem st.nid o with
      | some out => (dOk sz dst = true ∧ out.φ) ∧ K ⟨putE st.env dst out.r, updL st.mem out.us, out.nid⟩
      | none => False) := by
  cases o with
  | call c =>
    obtain ⟨cl, args, tys⟩ := c
    cases cl <;> rfl
  | _ => rfl
attribute [simp] evOp_eq

def rowK (P : Program) (sz : Nat) (ops : Array Oper) (os : List Oper) (o : Oper) (env : Env) (mem : Mem) (acc : List (List Nat × List Nat)) (K : List (List Nat × List Nat) → St → Prop) :
    PV → List (Nat × Blk) → Nat → Prop := fun r us n => rowsD P sz ops os (putE env o.dst r) (updL mem us) n ((opIds env o.op.operands.toList, keysOf us) :: acc) K
def runD (P : Program) (sz : Nat) (ops : Array Oper) (os : List Oper) (o : Oper) (acc : List (List Nat × List Nat)) (K : List (List Nat × List Nat) → St → Prop) : St → Prop :=
  fun st => rowD P sz o st.env st.mem st.nid (rowK P sz ops os o st.env st.mem acc K)
def skipD (P : Program) (sz : Nat) (ops : Array Oper) (os : List Oper) (o : Oper) (acc : List (List Nat × List Nat)) (K : List (List Nat × List Nat) → St → Prop) : St → Prop :=
  fun st => dOk sz o.dst = true ∧ rowsD P sz ops os (putE st.env o.dst vnone) st.mem st.nid (([], []) :: acc) K
@[simp] theorem runD_a (ops : Array Oper) (os : List Oper) (o : Oper) (acc : List (List Nat × List Nat)) (K : List (List Nat × List Nat) → St → Prop) (st : St) :
    runD P sz ops os o acc K st = rowD P sz o st.env st.mem st.nid (rowK P sz ops os o st.env st.mem acc K) := rfl
@[simp] theorem skipD_a (ops : Array Oper) (os : List Oper) (o : Oper) (acc : List (List Nat × List Nat)) (K : List (List Nat × List Nat) → St → Prop) (st : St) :
    skipD P sz ops os o acc K st = (dOk sz o.dst = true ∧ rowsD P sz ops os (putE st.env o.dst vnone) st.mem st.nid (([], []) :: acc) K) := rfl
def dcK (nid : Nat) (K : PV → List (Nat × Blk) → Nat → Prop) : PV → List (Nat × List (List C)) → Prop := fun r ms => K (shV nid r) (shM nid ms) (nid + ms.length)
def endD (ops : Array Oper) (Q : Exit → St → Prop) : List (List Nat × List Nat) → St → Prop := fun I st' => chkD ops I = true ∧ Q .normal st'
@[simp] theorem rowK_a (ops : Array Oper) (os : List Oper) (o : Oper) (env : Env) (mem : Mem) (acc : List (List Nat × List Nat)) (K : List (List Nat × List Nat) → St → Prop) (r : PV) (us : List (Nat × Blk)) (n : Nat) :
    rowK P sz ops os o env mem acc K r us n = rowsD P sz ops os (putE env o.dst r) (updL mem us) n ((opIds env o.op.operands.toList, keysOf us) :: acc) K := rfl
@[simp] theorem dcK_a (nid : Nat) (K : PV → List (Nat × Blk) → Nat → Prop) (r : PV) (ms : List (Nat × List (List C))) : dcK nid K r ms = K (shV nid r) (shM nid ms) (nid + ms.length) := rfl
@[simp] theorem endD_a (ops : Array Oper) (Q : Exit → St → Prop) (I : List (List Nat × List Nat)) (st' : St) : endD ops Q I st' = (chkD ops I = true ∧ Q .normal st') := rfl
@[simp] theorem rowsD_nil (ops : Array Oper) (env : Env) (mem : Mem) (nid : Nat) (acc : List (List Nat × List Nat)) (K : List (List Nat × List Nat) → St → Prop) : rowsD P sz ops [] env mem nid acc K = K acc.reverse ⟨env, mem, nid⟩ := rfl
@[simp] theorem rowsD_cons (ops : Array Oper) (o : Oper) (os : List Oper) (env : Env) (mem : Mem) (nid : Nat) (acc : List (List Nat × List Nat)) (K : List (List Nat × List Nat) → St → Prop) :
    rowsD P sz ops (o :: os) env mem nid acc K = match o.guard with
    | none => rowD P sz o env mem nid (rowK P sz ops os o env mem acc K)
    | some (j, want) =>
      match gSlot ops j with
      | some t => (match env t with
        | .one (.c (.bool b)) => br (bif want then b else !b) (runD P sz ops os o acc K) (skipD P sz ops os o acc K) ⟨env, mem, nid⟩
        | .tup [] => dOk sz o.dst = true ∧ rowsD P sz ops os (putE env o.dst vnone) mem nid (([], []) :: acc) K
        | _ => False)
      | none => False := by
  rw [rowsD]
  split
  · rename_i h; simp only [h]; rfl
  · rename_i j want h
    simp only [h]
    split
    · rename_i t h2
      simp only [h2]
      split
      · rename_i b h3
        simp only [h3]
        rw [← br_form]; exact ite_form b want _ _
      · rename_i h3; simp only [h3]
      · rename_i h3 h4
        split
        · rename_i b h5; exact absurd h5 (h3 b)
        · rename_i h5; exact absurd h5 h4
        · rfl
    · rename_i h2; simp only [h2]
theorem rowD_eq (o : Oper) (env : Env) (mem : Mem) (nid : Nat) (K : PV → List (Nat × Blk) → Nat → Prop) : rowD P sz o env mem nid K = match isCallV o.op with
    | some (f, args) => dOk sz o.dst = true ∧ DC P (getO env f) (argsO env args) mem (dcK nid K)
    | none => (match opF P env mem nid o.op with
      | some out => (dOk sz o.dst = true ∧ out.φ) ∧ K out.r out.us out.nid
      | none => False) := by
  obtain ⟨dst, op, ty, pos, after, guard⟩ := o
  cases op with
  | call c =>
    obtain ⟨cl, args, tys⟩ := c
    cases cl <;> rfl
  | _ => rfl
attribute [simp] rowD_eq

theorem lp {α : Type} {body : Code} {Q : Exit → St → Prop} {st : St} (slots : List Nat) (canon : α → Canon) (I : α → Prop) (μ : α → Nat) (x0 : α)
    (h0 : norm keep slots st = canon x0) (hI : I x0) (round : ∀ x, I x → awp P keep sz body (stOf keep (canon x)) (loopK Q (endK keep slots canon I μ x))) : awp P keep sz (.loop body) st Q :=
  AW.loop slots canon I μ x0 h0 hI round
theorem dr {id : Nat} {ops : Array Oper} {st : St} {Q : Exit → St → Prop} (hmix : P.follows .mixedOrders = true)
    (h : rowsD P sz ops ops.toList st.env st.mem st.nid [] (endD ops Q)) : awp P keep sz (.region id ops true) st Q := AW.draw hmix h

/-- An own array is not written any more. -/
theorem fz {c : Code} {st : St} {Q : Exit → St → Prop} (id : Nat) {sz' : Nat} {rows : List (List C)} (hm : st.mem id = .arr sz' rows)
    (h : awp P keep sz c ⟨st.env, upd st.mem id (.frz rows), st.nid⟩ Q) : AW P keep sz c st Q := by
  intro g F X w a hsr
  obtain ⟨F1, X1, m1, e1, _⟩ := hsr.mr.freeze hm
  have hsr1 : SR g F1 X1 w sz ⟨st.env, upd st.mem id (.frz rows), st.nid⟩ a := ⟨m1, fun t => (hsr.env t).ext hsr.mr e1, fun i hi => by
    have h1 := hsr.fresh i hi
    have : i ≠ id := fun e => by subst e; rw [hm] at h1; cases h1
    show upd st.mem id (.frz rows) i = .un
    rw [upd_ne _ _ this]; exact h1, hsr.size, hsr.defers⟩
  refine wp_mono (awp_sound _ _ _ h g F1 X1 w a hsr1) ?_
  rintro e a' w' ⟨st', g', F', X', hQ, hs', he'⟩
  exact ⟨st', g', F', X', hQ, hs', e1.k.trans he'⟩

theorem call_d {fid : FuncId} {nid : Nat} {mem : Mem} {args args' : List PV} {r0 : PV} {ms0 : List (Nat × List (List C))} {K : PV → Mem → Nat → Prop}
    (hc : Con P fid args' fun r ms => r = r0 ∧ ms = ms0) (hd : datA mem args = some args') (hf : flatV r0 = true ∧ flatM ms0 = true)
    (hK : K (shV nid r0) (updL mem (shM nid ms0)) (nid + ms0.length)) : SCall P (.one (.fn fid [])) args mem nid K :=
  scall_flat hc hd fun r ms h => by obtain ⟨rfl, rfl⟩ := h; exact ⟨hf, hK⟩
theorem call_c {fid : FuncId} {nid : Nat} {mem : Mem} {args args' : List PV} {r0 : PV} {ms0 : List (Nat × List (List C))} {K : PV → Mem → Nat → Prop}
    (hc : Con P fid args' fun r ms => r = r0 ∧ ms = ms0) (hd : datA mem args = some args')
    (hK : K (shV nid r0) (updL (updL mem (frzL mem (cellsL args))) (shM nid ms0)) (nid + ms0.length)) : SCall P (.one (.fn fid [])) args mem nid K :=
  scall_con hc hd fun r ms h => by obtain ⟨rfl, rfl⟩ := h; exact hK
end

theorem subRows_nat (rows : List (List C)) (a b : Nat) : subRows rows a b = (rows.take b).drop a := by simp [subRows]
theorem subRows_zero (rows : List (List C)) (b : Nat) : subRows rows 0 b = rows.take b := by simp [subRows]
attribute [simp] subRows_nat subRows_zero
@[simp] theorem take_len_map {α β : Type} (f : α → β) (l : List α) : List.take l.length (l.map f) = l.map f := List.take_of_length_le (by simp)
@[simp] theorem drop_len_map {α β : Type} (f : α → β) (l : List α) : List.drop l.length (l.map f) = [] := List.drop_of_length_le (by simp)

def bodyOf (fn : Func) : Code := fn.body.getD .skip

end Go.Proofs.K
/- What is known of an array is told otherwise: nothing is carried out. -/
namespace Go.Proofs.K
open Go Go.RowKit

variable {P : Program} {keep sz : Nat}

/-- The same frame told in another way. -/
def Sett (sz : Nat) (st st2 : St) : Prop := ∀ g F X w a, SR g F X w sz st a → ∃ g' F' X', SR g' F' X' w sz st2 a ∧ ∀ keep, ExtK keep g F X w st.mem g' F' X' w st2.mem

theorem Sett.aw {c : Code} {st st2 : St} {Q : Exit → St → Prop} (k : Sett sz st st2) (h : awp P keep sz c st2 Q) : AW P keep sz c st Q := by
  intro g F X w a hsr
  obtain ⟨g1, F1, X1, hsr1, e1⟩ := k g F X w a hsr
  refine wp_mono (awp_sound _ _ _ h g1 F1 X1 w a hsr1) ?_
  rintro e a' w' ⟨st', g', F', X', hQ, hs', he'⟩
  exact ⟨st', g', F', X', hQ, hs', (e1 keep).trans he'⟩
theorem Sett.trans {st st2 st3 : St} (k : Sett sz st st2) (l : Sett sz st2 st3) : Sett sz st st3 := by
  intro g F X w a hsr
  obtain ⟨g1, F1, X1, hsr1, e1⟩ := k g F X w a hsr
  obtain ⟨g2, F2, X2, hsr2, e2⟩ := l g1 F1 X1 w a hsr1
  exact ⟨g2, F2, X2, hsr2, fun keep => (e1 keep).trans (e2 keep)⟩

theorem fzS {st : St} (id : Nat) {sz' : Nat} {rows : List (List C)} (hm : st.mem id = .arr sz' rows) : Sett sz st ⟨st.env, upd st.mem id (.frz rows), st.nid⟩ := by
  intro g F X w a hsr
  obtain ⟨F1, X1, m1, e1, _⟩ := hsr.mr.freeze hm
  exact ⟨g, F1, X1, ⟨m1, fun t => (hsr.env t).ext hsr.mr e1, fun i hi => by
    have h1 := hsr.fresh i hi
    have : i ≠ id := fun e => by subst e; rw [hm] at h1; cases h1
    show upd st.mem id (.frz rows) i = .un
    rw [upd_ne _ _ this]; exact h1, hsr.size, hsr.defers⟩, fun keep => e1.k⟩

theorem retellS {st : St} (id : Nat) (b : Blk) (hne : st.mem id ≠ .un)
    (hgo : ∀ g F X w, MR g F X w st.mem → owns g st.mem id = true ∧ Goes g g (st.mem id) b id ∧ ownB g id b = true)
    (hb : ∀ g F X w mem', MR g F X w st.mem → mem' = upd st.mem id b → (∀ i, Goes g g (st.mem i) (mem' i) i) → BlkR g F w mem' id b) : Sett sz st ⟨st.env, upd st.mem id b, st.nid⟩ := by
  intro g F X w a hsr
  obtain ⟨h1, h2, h3⟩ := hgo g F X w hsr.mr
  obtain ⟨m1, e1⟩ := hsr.mr.put (w' := w) h1 h2 (by unfold owns; rw [upd_same]; exact h3) ⟨rfl, rfl, rfl, rfl⟩ (fun _ _ => rfl) (fun mem' e1 e2 => hb g F X w mem' hsr.mr e1 e2)
  have hsr1 : SR g F X w sz ⟨st.env, upd st.mem id b, st.nid⟩ a := ⟨m1, fun t => (hsr.env t).ext hsr.mr e1, fun i hi => by
    have hfi := hsr.fresh i hi
    have : i ≠ id := fun e => by subst e; exact hne hfi
    show upd st.mem id b i = .un
    rw [upd_ne _ _ this]; exact hfi, hsr.size, hsr.defers⟩
  exact ⟨_, _, _, hsr1, fun keep => e1.k⟩

theorem nil_rep {g : Gs} {F : Nat → Prop} {w : World} {mem : Mem} {v : Value} {p : P1} {x : C} (hx : toC1 (fun _ => .un) p = some x) (hv : V1 g F w mem v p) : RepC F w v x := by
  cases p with
  | c y => simp [toC1] at hx; subst hx; exact hv
  | nil => simp [toC1] at hx; subst hx; rw [show v = .slice none 0 0 from hv]; exact RepC.nil _ _
  | _ => simp [toC1] at hx

theorem zrep {zs : List P1} {z : List C} (hz : rowC (fun _ => .un) zs = some z) : zs.length = z.length ∧ ∀ (j : Nat) (x : C), z[j]? = some x → ∃ p, zs[j]? = some p ∧ toC1 (fun _ => .un) p = some x := by
  induction zs generalizing z with
  | nil => simp [rowC] at hz; subst hz; exact ⟨rfl, fun j x h => by simp at h⟩
  | cons p zs ih =>
    simp only [rowC] at hz
    split at hz
    · rename_i y ys h1 h2
      cases hz
      obtain ⟨k1, k2⟩ := ih h2
      refine ⟨by simp [k1], fun j x hj => ?_⟩
      cases j with
      | zero => simp at hj; subst hj; exact ⟨p, rfl, h1⟩
      | succ j => exact k2 j x (by simpa using hj)
    · cases hz

/-- A fresh array as an array of data. -/
theorem gzS {st : St} (id : Nat) {s n : Nat} {zs : List P1} {z : List C} (hm : st.mem id = .arz s n zs) (hz : rowC (fun _ => .un) zs = some z) : Sett sz st ⟨st.env, upd st.mem id (.arr s (List.replicate n z)), st.nid⟩ := by
  obtain ⟨k1, k2⟩ := zrep hz
  refine retellS id _ (by rw [hm]; simp) (fun g F X w m => ?_) (fun g F X w mem' m e hgo => ?_)
  · have hb := m.blk id
    rw [hm] at hb
    exact ⟨by simp [owns, hm], by rw [hm]; simp [Goes], by simp [hb.2.1]⟩
  · have hb := m.blk id
    rw [hm] at hb
    obtain ⟨h0, h1, h2, cells, t, h3, h4, h5⟩ := hb
    refine ⟨fun r hr => by rw [List.eq_of_mem_replicate hr]; omega, .inr ⟨h1, by simpa using h2, cells, t, h3, h4, fun i j r x hr hx => ?_⟩⟩
    have hi : i < n := by have := (List.getElem?_eq_some_iff.1 hr).1; simpa using this
    have er := List.eq_of_mem_replicate (List.mem_of_getElem? hr)
    subst er
    obtain ⟨p, hp, hpx⟩ := k2 j x hx
    obtain ⟨v, hv, h6⟩ := h5 i j p hi hp
    exact ⟨v, hv, nil_rep hpx h6⟩

/-- A fresh array some cells of which are to hold own slices. -/
theorem goS {st : St} (id : Nat) (ov : List ((Nat × Nat) × P1)) {s n : Nat} {zs : List P1} {z : List C} (hm : st.mem id = .arz s n zs) (hz : rowC (fun _ => .un) zs = some z)
    (hj : ∀ i j p, ovG ov i j = some p → p = .nil ∧ zs[j]? = some .nil) : Sett sz st ⟨st.env, upd st.mem id (.arx s (List.replicate n z) ov), st.nid⟩ := by
  obtain ⟨k1, k2⟩ := zrep hz
  refine retellS id _ (by rw [hm]; simp) (fun g F X w m => ?_) (fun g F X w mem' m e hgo => ?_)
  · exact ⟨by simp [owns, hm], by rw [hm]; simp [Goes], rfl⟩
  · have hb := m.blk id
    rw [hm] at hb
    obtain ⟨h0, h1, h2, cells, t, h3, h4, h5⟩ := hb
    refine ⟨fun r hr => by rw [List.eq_of_mem_replicate hr]; omega, h1, by simpa using h2, cells, t, h3, h4, fun i j r x hr hx => ?_⟩
    have hi : i < n := by have := (List.getElem?_eq_some_iff.1 hr).1; simpa using this
    have er := List.eq_of_mem_replicate (List.mem_of_getElem? hr)
    subst er
    obtain ⟨p, hp, hpx⟩ := k2 j x hx
    obtain ⟨v, hv, h6⟩ := h5 i j p hi hp
    refine ⟨v, hv, ?_⟩
    unfold ovR
    cases hq : ovG ov i j with
    | none => exact nil_rep hpx h6
    | some q =>
      obtain ⟨rfl, hzj⟩ := hj i j q hq
      rw [hzj] at hp; cases hp
      exact h6

def setC (rows : List (List C)) (i j : Nat) (x : C) : List (List C) := rows.set i ((rows.getD i []).set j x)

theorem setC_len {rows : List (List C)} {i j s : Nat} {x : C} (h0 : ∀ r ∈ rows, r.length = s) : ∀ r ∈ setC rows i j x, r.length = s := fun r hr => by
  unfold setC at hr
  rcases List.mem_or_eq_of_mem_set hr with hr' | rfl
  · exact h0 r hr'
  · by_cases hi : i < rows.length
    · simp [List.getD, hi, h0 _ (List.getElem_mem hi)]
    · rw [List.set_eq_of_length_le (by omega)] at hr
      exact h0 _ hr

/-- A cell that held an own slice is data again. -/
theorem gcS {st : St} (id : Nat) {s i0 j0 : Nat} {rows : List (List C)} {ov : List ((Nat × Nat) × P1)} {p : P1} {x : C} (hm : st.mem id = .arx s rows (((i0, j0), p) :: ov))
    (hx : toC1 st.mem p = some x) (hov : ovG ov i0 j0 = none) (hna : ∀ k sz' rows', p = .ms k → st.mem k ≠ .arr sz' rows') : Sett sz st ⟨st.env, upd st.mem id (.arx s (setC rows i0 j0 x) ov), st.nid⟩ := by
  refine retellS id _ (by rw [hm]; simp) (fun g F X w m => ?_) (fun g F X w mem' m e hgo => ?_)
  · exact ⟨by simp [owns, hm], by rw [hm]; simp [Goes, setC], rfl⟩
  · have hb := m.blk id
    rw [hm] at hb
    obtain ⟨h0, h1, h2, cells, t, h3, h4, h5⟩ := hb
    refine ⟨setC_len h0, h1, by simpa [setC] using h2, cells, t, h3, h4, fun i j r y hr hy => ?_⟩
    unfold setC at hr
    by_cases hi : i = i0
    · subst hi
      have hil : i < rows.length := by have := (List.getElem?_eq_some_iff.1 hr).1; simpa using this
      rw [List.getElem?_set_self hil] at hr
      cases hr
      have hri : rows[i]? = some (rows.getD i []) := by simp [List.getD, hil]
      by_cases hj : j = j0
      · subst hj
        have hjl : j < (rows.getD i []).length := by have := (List.getElem?_eq_some_iff.1 hy).1; simpa using this
        rw [List.getElem?_set_self hjl] at hy
        cases hy
        obtain ⟨v, hv, h6⟩ := h5 i j _ _ hri (List.getElem?_eq_getElem hjl)
        simp only [ovR, ovG, and_self, if_true] at h6
        refine ⟨v, hv, ?_⟩
        simp only [ovR, hov]
        exact toC1_nil_len hx h6 m (fun k sz' rows' e1 e2 => hna k sz' rows' e1 e2)
      · rw [List.getElem?_set_ne (Ne.symm hj)] at hy
        obtain ⟨v, hv, h6⟩ := h5 i j _ y hri hy
        have h7 := h6.goes (fun _ h => h) (fun _ _ => rfl) hgo
        unfold ovR at h7 ⊢
        rw [ovG, if_neg (fun he : i = i ∧ j = j0 => hj he.2)] at h7
        exact ⟨v, hv, h7⟩
    · rw [List.getElem?_set_ne (Ne.symm hi)] at hr
      obtain ⟨v, hv, h6⟩ := h5 i j r y hr hy
      have h7 := h6.goes (fun _ h => h) (fun _ _ => rfl) hgo
      unfold ovR at h7 ⊢
      rw [ovG, if_neg (fun he : i = i0 ∧ j = j0 => hi he.1)] at h7
      exact ⟨v, hv, h7⟩

/-- All cells are data. -/
theorem gaS {st : St} (id : Nat) {s : Nat} {rows : List (List C)} (hm : st.mem id = .arx s rows []) : Sett sz st ⟨st.env, upd st.mem id (.arr s rows), st.nid⟩ := by
  refine retellS id _ (by rw [hm]; simp) (fun g F X w m => ?_) (fun g F X w mem' m e hgo => ?_)
  · have hb := m.blk id
    rw [hm] at hb
    exact ⟨by simp [owns, hm], by rw [hm]; simp [Goes], by simp [hb.2.1]⟩
  · have hb := m.blk id
    rw [hm] at hb
    obtain ⟨h0, h1, h2, cells, t, h3, h4, h5⟩ := hb
    refine ⟨h0, .inr ⟨h1, h2, cells, t, h3, h4, fun i j r y hr hy => ?_⟩⟩
    obtain ⟨v, hv, h6⟩ := h5 i j r y hr hy
    exact ⟨v, hv, h6⟩

theorem nil_ms {g : Gs} {F : Nat → Prop} {w : World} {mem : Mem} {v : Value} {nid s : Nat} (hv : v = .slice none 0 0) (hm : mem nid = .arr s []) (hg : g nid = ⟨0, 0, 0, true⟩) : V1 g F w mem v (.ms nid) := by
  simp [V1, hm, hg, hdr, hv]

theorem ownB_eq {g g' : Gs} {id : Nat} (b : Blk) (h : g' id = g id) : ownB g' id b = ownB g id b := by cases b <;> simp only [ownB, h]
theorem goes_eq {g g' : Gs} {id : Nat} {a b : Blk} (h : g' id = g id) (k : Goes g g a b id) : Goes g' g' a b id := by
  revert k; cases a <;> cases b <;> simp only [Goes] <;> intro k <;> first | exact k | exact ⟨k.1, k.2.1, rfl⟩ | exact ⟨k.1, rfl⟩ | rfl

/-- A nil slice in a slot, as an own array without rows. -/
theorem gvS {st : St} (t s : Nat) (ht : st.env t = .one .nil) : Sett sz st ⟨upd st.env t (.one (.ms st.nid)), upd st.mem st.nid (.arr s []), st.nid + 1⟩ := by
  intro g F X w a hsr
  obtain ⟨m1, e1⟩ := hsr.mr.addNil (id := st.nid) (sz := s) (hsr.fresh _ (Nat.le_refl _))
  have hsr1 : SR (upd g st.nid ⟨0, 0, 0, true⟩) F X w sz ⟨upd st.env t (.one (.ms st.nid)), upd st.mem st.nid (.arr s []), st.nid + 1⟩ a := ⟨m1, fun t' => by
    by_cases e : t' = t
    · subst e
      have hv := hsr.env t'
      rw [ht] at hv
      show VR _ _ _ _ _ (upd st.env t' (.one (.ms st.nid)) t')
      rw [upd_same]
      exact nil_ms (F := F) (w := w) (show _ = Value.slice none 0 0 from hv) (upd_same _ _ _) (upd_same _ _ _)
    · show VR _ _ _ _ _ (upd st.env t (.one (.ms st.nid)) t')
      rw [upd_ne _ _ e]
      exact (hsr.env t').ext hsr.mr e1, fun i hi => by
        show upd st.mem st.nid (.arr s []) i = .un
        have hi : st.nid + 1 ≤ i := hi
        rw [upd_ne _ _ (by omega)]; exact hsr.fresh i (by omega), hsr.size, hsr.defers⟩
  exact ⟨_, _, _, hsr1, fun keep => e1.k⟩

theorem renilS {st : St} (id s : Nat) (b : Blk) (hne : st.mem id ≠ .un)
    (hgo : ∀ g F X w, MR g F X w st.mem → owns g st.mem id = true ∧ Goes g g (st.mem id) b id ∧ ownB g id b = true)
    (hb : ∀ g g' F X w mem', MR g F X w st.mem → (∀ i, Goes g g' (st.mem i) (mem' i) i) → g' id = g id → mem' st.nid = .arr s [] → g' st.nid = ⟨0, 0, 0, true⟩ → BlkR g' F w mem' id b) : Sett sz st ⟨st.env, upd (upd st.mem st.nid (.arr s [])) id b, st.nid + 1⟩ := by
  intro g F X w a hsr
  have hidn : id ≠ st.nid := fun e => hne (by rw [e]; exact hsr.fresh _ (Nat.le_refl _))
  obtain ⟨m1, e1⟩ := hsr.mr.addNil (id := st.nid) (sz := s) (hsr.fresh _ (Nat.le_refl _))
  obtain ⟨h1, h2, h3⟩ := hgo g F X w hsr.mr
  have hgid : upd g st.nid ⟨0, 0, 0, true⟩ id = g id := upd_ne _ _ hidn
  have hmid : upd st.mem st.nid (.arr s []) id = st.mem id := upd_ne _ _ hidn
  obtain ⟨m2, e2⟩ := m1.put (id := id) (b := b) (w' := w) (by unfold owns at h1 ⊢; rw [hmid, ownB_eq _ hgid]; exact h1)
    (by rw [hmid]; exact goes_eq hgid h2) (by unfold owns; rw [upd_same, ownB_eq _ hgid]; exact h3) ⟨rfl, rfl, rfl, rfl⟩ (fun _ _ => rfl) (fun mem' hm' hgo' => by
      refine hb g _ F X w mem' hsr.mr (fun i => (e1.goes i).trans (hgo' i)) hgid ?_ (upd_same _ _ _)
      rw [hm', upd_ne _ _ (Ne.symm hidn), upd_same])
  have hsr1 : SR (upd g st.nid ⟨0, 0, 0, true⟩) F X w sz ⟨st.env, upd (upd st.mem st.nid (.arr s [])) id b, st.nid + 1⟩ a := ⟨m2, fun t' => ((hsr.env t').ext hsr.mr e1).ext m1 e2, fun i hi => by
    show upd (upd st.mem st.nid (.arr s [])) id b i = .un
    have hi : st.nid + 1 ≤ i := hi
    have hin : i ≠ id := fun e => hne (by rw [← e]; exact hsr.fresh i (by omega))
    rw [upd_ne _ _ hin, upd_ne _ _ (by omega)]; exact hsr.fresh i (by omega), hsr.size, hsr.defers⟩
  exact ⟨_, _, _, hsr1, fun keep => (e1.trans e2).k⟩

/-- A nil slice in a variable. -/
theorem gbS {st : St} (id off s : Nat) {cs : List P1} (hm : st.mem id = .box cs) (ho : cs[off]? = some .nil) : Sett sz st ⟨st.env, upd (upd st.mem st.nid (.arr s [])) id (.box (cs.set off (.ms st.nid))), st.nid + 1⟩ := by
  refine renilS id s _ (by rw [hm]; simp) (fun g F X w m => ⟨by simp [owns, hm], by rw [hm]; simp [Goes], rfl⟩) (fun g g' F X w mem' m hgo hg hmn hgn => ?_)
  have hb := m.blk id
  rw [hm] at hb
  obtain ⟨cells, t, h1, h2, h3⟩ := hb
  refine ⟨cells, t, by rw [hg]; exact h1, by simpa using h2, fun i p hp => ?_⟩
  by_cases hi : i = off
  · subst hi
    have hlt : i < cs.length := (List.getElem?_eq_some_iff.1 ho).1
    rw [List.getElem?_set_self hlt] at hp
    cases hp
    obtain ⟨v, hv, h4⟩ := h3 i _ ho
    exact ⟨v, hv, nil_ms (show _ = Value.slice none 0 0 from h4) hmn hgn⟩
  · rw [List.getElem?_set_ne (Ne.symm hi)] at hp
    obtain ⟨v, hv, h4⟩ := h3 i _ hp
    exact ⟨v, hv, h4.goes (fun _ h => h) (fun _ _ => rfl) hgo⟩

/-- A nil slice in a cell of an array. -/
theorem gnS {st : St} (id i0 j0 s : Nat) {s' : Nat} {rows : List (List C)} {ov : List ((Nat × Nat) × P1)} (hm : st.mem id = .arx s' rows ov) (ho : ovG ov i0 j0 = some .nil) : Sett sz st ⟨st.env, upd (upd st.mem st.nid (.arr s [])) id (.arx s' rows (ovS ov i0 j0 (.ms st.nid))), st.nid + 1⟩ := by
  refine renilS id s _ (by rw [hm]; simp) (fun g F X w m => ⟨by simp [owns, hm], by rw [hm]; simp [Goes], rfl⟩) (fun g g' F X w mem' m hgo hg hmn hgn => ?_)
  have hb := m.blk id
  rw [hm] at hb
  obtain ⟨h0, h1, h2, cells, t, h3, h4, h5⟩ := hb
  refine ⟨h0, by rw [hg]; exact h1, by rw [hg]; exact h2, cells, t, by rw [hg]; exact h3, by rw [hg]; exact h4, fun i j r x hr hx => ?_⟩
  obtain ⟨v, hv, h6⟩ := h5 i j r x hr hx
  refine ⟨v, by rw [hg]; exact hv, ?_⟩
  by_cases he : i = i0 ∧ j = j0
  · obtain ⟨rfl, rfl⟩ := he
    unfold ovR at h6 ⊢
    rw [ho] at h6
    rw [ovS_get (by rw [ho]; rfl), if_pos ⟨rfl, rfl⟩]
    exact nil_ms (show _ = Value.slice none 0 0 from h6) hmn hgn
  · have h7 := h6.goes (fun _ h => h) (fun _ _ => rfl) hgo
    unfold ovR at h7 ⊢
    rw [ovS_get (by rw [ho]; rfl), if_neg he]
    exact h7

/-- Ways meet again: what follows is told once, over a state in one form. -/
def meetK {α : Type} (keep : Nat) (slots : List Nat) (canon : α → Canon) (I : α → Prop) (st' : St) : Prop := ∃ y, norm keep slots st' = canon y ∧ I y
@[simp] theorem meetK_a {α : Type} (slots : List Nat) (canon : α → Canon) (I : α → Prop) (st' : St) : meetK keep slots canon I st' = ∃ y, norm keep slots st' = canon y ∧ I y := rfl
def exK (id : Nat) (R : St → Prop) (Q : Exit → St → Prop) : Exit → St → Prop
  | .exit id', st' => if id' = id then R st' else Q (.exit id') st'
  | e, st' => Q e st'
@[simp] theorem exK_e (id id' : Nat) (R : St → Prop) (Q : Exit → St → Prop) (st : St) : exK id R Q (.exit id') st = if id' = id then R st else Q (.exit id') st := rfl
@[simp] theorem exK_n (id : Nat) (R : St → Prop) (Q : Exit → St → Prop) (st : St) : exK id R Q .normal st = Q .normal st := rfl
@[simp] theorem exK_r (id : Nat) (R : St → Prop) (Q : Exit → St → Prop) (st : St) : exK id R Q .ret st = Q .ret st := rfl

/-- Ways meet, and what is known is told otherwise ahead of what follows. -/
theorem meet_g {α : Type} {c : Code} {st : St} {Q : Exit → St → Prop} (id : Nat) (slots : List Nat) (canon : α → Canon) (I : α → Prop) (h : awp P keep sz c st (exK id (meetK keep slots canon I) Q))
    (hQ : ∀ y, I y → ∃ st2, Sett sz (stOf keep (canon y)) st2 ∧ Q (.exit id) st2) : AW P keep sz c st Q := by
  intro g F X w a hsr
  refine wp_mono (awp_sound _ _ _ h g F X w a hsr) ?_
  rintro e a' w' ⟨st', g', F', X', hR, hs', he'⟩
  cases e with
  | exit id' =>
    simp only [exK] at hR
    split at hR
    · rename_i hid
      subst hid
      obtain ⟨y, hy, hI⟩ := hR
      obtain ⟨g2, hs2, he2⟩ := norm_ok (keep := keep) (slots := slots) hs'
      rw [hy] at hs2 he2
      obtain ⟨st3, k3, hQ3⟩ := hQ y hI
      obtain ⟨g3, F3, X3, hs3, he3⟩ := k3 g2 F' X' w' a' hs2
      exact ⟨st3, g3, F3, X3, hQ3, hs3, (he'.trans he2).trans (he3 keep)⟩
    · exact ⟨st', g', F', X', hR, hs', he'⟩
  | _ => exact ⟨st', g', F', X', hR, hs', he'⟩

theorem meet_x {α : Type} {c : Code} {st : St} {Q : Exit → St → Prop} (id : Nat) (slots : List Nat) (canon : α → Canon) (I : α → Prop) (h : awp P keep sz c st (exK id (meetK keep slots canon I) Q))
    (hQ : ∀ y, I y → Q (.exit id) (stOf keep (canon y))) : AW P keep sz c st Q := by
  intro g F X w a hsr
  refine wp_mono (awp_sound _ _ _ h g F X w a hsr) ?_
  rintro e a' w' ⟨st', g', F', X', hR, hs', he'⟩
  cases e with
  | exit id' =>
    simp only [exK] at hR
    split at hR
    · rename_i hid
      subst hid
      obtain ⟨y, hy, hI⟩ := hR
      obtain ⟨g2, hs2, he2⟩ := norm_ok (keep := keep) (slots := slots) hs'
      rw [hy] at hs2 he2
      exact ⟨_, g2, F', X', hQ y hI, hs2, he'.trans he2⟩
    · exact ⟨st', g', F', X', hR, hs', he'⟩
  | _ => exact ⟨st', g', F', X', hR, hs', he'⟩

@[simp] theorem isNil_n : isNil .nil = true := rfl
@[simp] theorem isNil_c (x : C) : isNil (.c x) = false := rfl
@[simp] theorem isNil_t : isNil .top = false := rfl
attribute [simp] ovG ovS ovF renO idsO
end Go.Proofs.K
/- Results that are nil or an own array without rows. -/
namespace Go.Proofs.K
open Go Go.RowKit

variable {P : Program} {keep sz : Nat}

theorem mr_nil {F : Nat → Prop} {w : World} {s : Nat} (hF : ∀ b, F b → b < w.heap.size) : MR (fun _ => ⟨0, 0, 0, true⟩) F F w (memOf [(s, [])]) := by
  have hno : ∀ k, owns (fun _ => ⟨0, 0, 0, true⟩) (memOf [(s, [])]) k = false := fun k => by
    unfold owns memOf
    cases k with
    | zero => simp
    | succ k => simp
  refine ⟨fun k => ?_, fun i j _ hi _ => ?_, fun i hi => ?_, fun b h => h, hF⟩
  · cases k with
    | zero => exact ⟨by simp, .inl ⟨rfl, rfl⟩⟩
    | succ k => trivial
  · rw [hno] at hi; cases hi
  · rw [hno] at hi; cases hi

theorem Con.mono {fid : FuncId} {args : List PV} {Q Q' : PV → List (Nat × List (List C)) → Prop} (hc : Con P fid args Q) (h : ∀ r ms, Q r ms → Q' r ms) : Con P fid args Q' := by
  refine ⟨hc.1, fun F w vs hF hv => (hc.2 F w vs hF hv).mono ?_⟩
  rintro e w' ⟨v, r, ms, g, F', he, hq, rest⟩
  exact ⟨v, r, ms, g, F', he, h r ms hq, rest⟩

/-- A nil result told as an own array without rows. -/
theorem Con.nilOwn {fid : FuncId} {args : List PV} {Q Q' : PV → List (Nat × List (List C)) → Prop} (hc : Con P fid args Q)
    (h : ∀ r ms, Q r ms → Q' r ms ∨ (r = .one .nil ∧ ∃ s, Q' (.one (.ms 0)) [(s, [])])) : Con P fid args Q' := by
  refine ⟨hc.1, fun F w vs hF hv => (hc.2 F w vs hF hv).mono ?_⟩
  rintro e w' ⟨v, r, ms, g, F', he, hq, hm, hr, hpr, h1, h2, h3⟩
  rcases h r ms hq with h4 | ⟨rfl, s, h4⟩
  · exact ⟨v, r, ms, g, F', he, h4, hm, hr, hpr, h1, h2, h3⟩
  · have hv' : v = .slice none 0 0 := hr
    subst hv'
    refine ⟨_, _, _, fun _ => ⟨0, 0, 0, true⟩, F', he, h4, mr_nil hm.lt, ?_, hpr, h1, h2, fun k hk => ?_⟩
    · simp [VR, V0, V1, memOf, hdr]
    · exfalso
      unfold owns memOf at hk
      cases k with
      | zero => simp at hk
      | succ k => simp at hk
end Go.Proofs.K
/- Library functions of scalars and texts. -/
namespace Go.Proofs.K
open Go Go.RowKit Go.Proofs

variable {P : Program}

theorem Con.scalar {fid : FuncId} {args : List PV} {r : PV} (hcal : Callable P fid)
    (h : ∀ (F : Nat → Prop) (w : World) (vs : List Value), VRs g0 F w mem0 vs args → Calls P fid vs.toArray w fun e w' => w' = w ∧ ∃ v, e = .returned v ∧ VR g0 F w mem0 v r) :
    Con P fid args fun r' ms => r' = r ∧ ms = [] := by
  refine ⟨hcal, fun F w vs hF hv => (h F w vs hv).mono ?_⟩
  rintro e w' ⟨rfl, v, rfl, hr⟩
  exact ⟨v, r, [], g0, F, rfl, ⟨rfl, rfl⟩, ⟨fun _ => trivial, fun i j _ h => by simp [owns, memOf] at h, fun i h => by simp [owns, memOf] at h, fun _ h => h, hF⟩, hr, Pr.refl _ _, fun _ h => h, fun _ h => .inl h, fun k hk => by simp [owns, memOf] at hk⟩

theorem arg_str {F : Nat → Prop} {w : World} {v : Value} {s : ByteArray} (h : VR g0 F w mem0 v (vs s)) : v = .string s := by
  have h' : RepC F w v (.str s) := h
  generalize hx : C.str s = x at h'
  cases h' <;> cases hx
  rfl
theorem arg_int {F : Nat → Prop} {w : World} {v : Value} {n : Int} (h : VR g0 F w mem0 v (vi n)) : v = .int .i64 n := by
  have h' : RepC F w v (.int .i64 n) := h
  generalize hx : C.int .i64 n = x at h'
  cases h' <;> cases hx
  rfl
theorem args1 {F : Nat → Prop} {w : World} {vs : List Value} {p : PV} (h : VRs g0 F w mem0 vs [p]) : ∃ v, vs = [v] ∧ VR g0 F w mem0 v p := by
  obtain ⟨h1, h2⟩ := h
  match vs, h1 with
  | [v], _ => exact ⟨v, rfl, h2 0 v p rfl rfl⟩
theorem args2 {F : Nat → Prop} {w : World} {vs : List Value} {p q : PV} (h : VRs g0 F w mem0 vs [p, q]) : ∃ v u, vs = [v, u] ∧ VR g0 F w mem0 v p ∧ VR g0 F w mem0 u q := by
  obtain ⟨h1, h2⟩ := h
  match vs, h1 with
  | [v, u], _ => exact ⟨v, u, rfl, h2 0 v p rfl rfl, h2 1 u q rfl rfl⟩
end Go.Proofs.K
/- What is read of an argument is data: whatever type of numbers, texts, structs and slices it has. -/
namespace Go.Proofs.K
open Go Go.RowKit Go.Proofs

inductive CTy where
  | int (k : IntKind)
  | bool
  | str
  | lst (l : List CTy)

inductive HasC : C → CTy → Prop
  | int (k : IntKind) (n : Int) (h : (Lit.int k n).wf = true) : HasC (.int k n) (.int k)
  | bool (b : Bool) : HasC (.bool b) .bool
  | str (s : ByteArray) (h : s.size ≤ maxLen) : HasC (.str s) .str
  | lst (rows : List (List C)) (l : List CTy) (h0 : rows.length ≤ maxLen) (h1 : ∀ r ∈ rows, r.length = l.length)
      (h2 : ∀ r ∈ rows, ∀ (i : Nat) (x : C) (ty : CTy), r[i]? = some x → l[i]? = some ty → HasC x ty) : HasC (.lst rows) (.lst l)

def flds (g : TypeId → Option (List CTy)) (P : Program) : List Field → Nat → Option (List CTy)
  | [], _ => some []
  | f :: fs, off => match g f.type with
    | none => none
    | some l => if f.offset = off ∧ l.length = P.cellsOf f.type then (flds g P fs (off + l.length)).map (l ++ ·) else none

def cty (P : Program) : Nat → TypeId → Option (List CTy)
  | 0, _ => none
  | n + 1, t => match P.underlying t with
    | some .bool => some [.bool]
    | some (.int k) => some [.int k]
    | some .string => some [.str]
    | some (.slice e) => (match cty P n e with
      | some l => if l.length = P.cellsOf e ∧ 0 < l.length then some [.lst l] else none
      | none => none)
    | some (.struct fs) => (match flds (cty P n) P fs.toList 0 with
      | some l => if l.length = P.cellsOf t then some l else none
      | none => none)
    | _ => none

def Reps (F : Nat → Prop) (w : World) (cs : List Value) (xs : List C) (l : List CTy) : Prop :=
  cs.length = l.length ∧ xs.length = l.length ∧ ∀ (i : Nat) (v : Value) (y : C) (ty : CTy), cs[i]? = some v → xs[i]? = some y → l[i]? = some ty → RepC F w v y ∧ HasC y ty

variable {F : Nat → Prop} {w : World} {P : Program}

theorem Reps.one {v : Value} {y : C} {ty : CTy} (h : RepC F w v y) (k : HasC y ty) : Reps F w [v] [y] [ty] := by
  refine ⟨rfl, rfl, fun i v' y' ty' h1 h2 h3 => ?_⟩
  cases i with
  | zero => simp at h1 h2 h3; subst h1; subst h2; subst h3; exact ⟨h, k⟩
  | succ i => simp at h1

theorem Reps.append {cs cs' : List Value} {xs xs' : List C} {l l' : List CTy} (h : Reps F w cs xs l) (h' : Reps F w cs' xs' l') : Reps F w (cs ++ cs') (xs ++ xs') (l ++ l') := by
  obtain ⟨a1, a2, a3⟩ := h
  obtain ⟨b1, b2, b3⟩ := h'
  refine ⟨by simp [a1, b1], by simp [a2, b2], fun i v y ty h1 h2 h3 => ?_⟩
  by_cases hi : i < l.length
  · rw [List.getElem?_append_left (by omega)] at h1 h2 h3
    exact a3 i v y ty h1 h2 h3
  · rw [List.getElem?_append_right (by omega)] at h1 h2 h3
    rw [a1] at h1; rw [a2] at h2
    exact b3 _ v y ty h1 h2 h3

theorem add_none (b o n : Nat) : (⟨b, o, none⟩ : Addr).add n = ⟨b, o + n, none⟩ := by
  unfold Addr.add
  by_cases h : n = 0
  · simp [h]
  · simp [h]

theorem choose_nat {α : Type} [Inhabited α] {n : Nat} {p : Nat → α → Prop} (h : ∀ i, i < n → ∃ x, p i x) : ∃ f : Nat → α, ∀ i, i < n → p i (f i) := by
  have : ∀ i, ∃ x, i < n → p i x := fun i => by
    by_cases hi : i < n
    · obtain ⟨x, hx⟩ := h i hi; exact ⟨x, fun _ => hx⟩
    · exact ⟨default, fun h => absurd h hi⟩
  exact ⟨fun i => Classical.choose (this i), fun i hi => Classical.choose_spec (this i) hi⟩

variable {H : Type} {enc : TypeId × Value → H}

theorem flds_rep {g : TypeId → Option (List CTy)} {tr : TypeId → List Value → Option (DataW H × List MemPlace)}
    (hg : ∀ t l cs x, g t = some l → tr t cs = some x → ∃ ys, Reps F w cs ys l) (cs : List Value) :
    ∀ (fs : List Field) (off : Nat) (l : List CTy), flds g P fs off = some l → (∀ f ∈ fs, ∃ x, tr f.type ((cs.drop f.offset).take (P.cellsOf f.type)) = some x) → ∃ ys, Reps F w ((cs.drop off).take l.length) ys l := by
  intro fs
  induction fs with
  | nil =>
    intro off l h _
    simp [flds] at h; subst h
    exact ⟨[], by simp [Reps]⟩
  | cons f fs ih =>
    intro off l h hx
    simp only [flds] at h
    split at h
    · cases h
    · rename_i l1 h1
      split at h
      · rename_i hc
        obtain ⟨ho, hlen⟩ := hc
        rw [Option.map_eq_some_iff] at h
        obtain ⟨l2, h2, rfl⟩ := h
        obtain ⟨x, hx1⟩ := hx f (by simp)
        obtain ⟨ys1, r1⟩ := hg _ _ _ _ h1 hx1
        obtain ⟨ys2, r2⟩ := ih _ _ h2 (fun f' hf' => hx f' (by simp [hf']))
        rw [ho, ← hlen] at r1
        refine ⟨ys1 ++ ys2, ?_⟩
        have e : (cs.drop off).take (l1 ++ l2).length = (cs.drop off).take l1.length ++ (cs.drop (off + l1.length)).take l2.length := by
          rw [List.length_append, List.take_add, List.drop_drop]
        rw [e]
        exact r1.append r2
      · cases h

theorem trod_rep {base : Nat} {sp : Nat → Bool} {hd : Bool} : ∀ (n : Nat) (t : TypeId) (l : List CTy), cty P n t = some l → ∀ (fuel : Nat) (cs : List Value) (x : DataW H × List MemPlace),
    DataW.trod enc P w base sp hd fuel t cs = some x → ∃ ys, Reps (· < w.heap.size) w cs ys l := by
  intro n
  induction n with
  | zero => intro t l h; cases h
  | succ n ih =>
    intro t l h fuel cs x hx
    simp only [cty] at h
    split at h
    · rename_i hu
      cases h
      obtain ⟨b, rfl, _⟩ := DataW.trod_bool hu hx
      exact ⟨_, .one (.bool b) (.bool b)⟩
    · rename_i k hu
      cases h
      obtain ⟨m, rfl, _, hw⟩ := DataW.trod_int hu hx
      exact ⟨_, .one (.int k m) (.int k m hw)⟩
    · rename_i hu
      cases h
      obtain ⟨s, rfl, _, hs⟩ := DataW.trod_string hu hx
      exact ⟨_, .one (.str s) (.str s hs)⟩
    · rename_i e hu
      split at h
      · rename_i le he
        split at h
        · rename_i hc
          cases h
          rcases DataW.trod_slice hu hx with ⟨rfl, _⟩ | ⟨a, len, cap, elems, rest, m, _, rfl, _, _, hl, hm, hlen, hel, _, _⟩
          · exact ⟨_, .one (.nil none 0) (.lst [] le (by simp) (by simp) (by simp))⟩
          · have hle : ∀ i, i < len → ∃ y : List Value × List C, w.cells? base (a.add (i * P.cellsOf e)) (P.cellsOf e) = some y.1 ∧ Reps (· < w.heap.size) w y.1 y.2 le := fun i hi => by
              have := hel i hi
              rw [List.getElem?_eq_getElem (by omega)] at this
              obtain ⟨cs', h1, h2⟩ := Option.bind_eq_some_iff.1 this
              obtain ⟨ys, r⟩ := ih _ _ he _ _ _ h2
              exact ⟨(cs', ys), h1, r⟩
            obtain ⟨f, hf⟩ := choose_nat hle
            by_cases h0 : len = 0
            · subst h0
              exact ⟨_, .one (.nil (some a) cap) (.lst [] le (by simp) (by simp) (by simp))⟩
            · have hsp : a.spot = none := by
                have h1 := (hf 0 (by omega)).1
                obtain ⟨_, hcl, hce⟩ := World.cells?_some h1
                have := hce 0 (by omega)
                rw [List.getElem?_eq_getElem (by omega)] at this
                have := World.cell?_spot this
                simpa [Addr.add] using this
              obtain ⟨b, o, spot⟩ := a
              simp only at hsp
              subst hsp
              have hcell : ∀ i j, i < len → j < le.length → w.cell? ⟨b, o + (i * le.length + j), none⟩ = (f i).1[j]? := fun i j hi hj => by
                obtain ⟨_, hcl, hce⟩ := World.cells?_some (hf i hi).1
                have := hce j (by omega)
                rw [add_none, add_none, ← hc.1] at this
                rw [← this]; congr 2; omega
              have hrl : ∀ i, i < len → (f i).2.length = le.length := fun i hi => (hf i hi).2.2.1
              have hvl : ∀ i, i < len → (f i).1.length = le.length := fun i hi => (hf i hi).2.1
              have hb : b < w.heap.size := by
                have h1 := hcell 0 0 (by omega) (by omega)
                rw [List.getElem?_eq_getElem (by rw [hvl 0 (by omega)]; omega)] at h1
                unfold World.cell? at h1
                cases hh : w.heap[b]? with
                | none => rw [hh] at h1; cases h1
                | some o => exact (Array.getElem?_eq_some_iff.1 hh).1
              have hrows : ((List.range len).map fun i => (f i).2).length = len := by simp
              have hat : ∀ (i j : Nat) (r : List C) (y : C), ((List.range len).map fun i => (f i).2)[i]? = some r → r[j]? = some y → i < len ∧ j < le.length ∧ r = (f i).2 := fun i j r y h1 h2 => by
                have hi : i < len := by have := (List.getElem?_eq_some_iff.1 h1).1; simpa using this
                have er : r = (f i).2 := by simp [hi] at h1; exact h1.symm
                subst er
                exact ⟨hi, by have := (List.getElem?_eq_some_iff.1 h2).1; rw [hrl i hi] at this; exact this, rfl⟩
              refine ⟨[.lst ((List.range len).map fun i => (f i).2)], .one ?_ (.lst _ le (by simp; omega) ?_ ?_)⟩
              · have := RepC.lst (F := (· < w.heap.size)) (w := w) b o cap ((List.range len).map fun i => (f i).2) le.length (fun i j => ((f i).1[j]?).getD (.bool false)) hb (by rw [hrows]; omega)
                  (by intro r hr; simp only [List.mem_map, List.mem_range] at hr; obtain ⟨i, hi, rfl⟩ := hr; exact hrl i hi)
                  (fun i j r y h1 h2 => by
                    obtain ⟨hi, hj, rfl⟩ := hat i j r y h1 h2
                    rw [hcell i j hi hj, List.getElem?_eq_getElem (by rw [hvl i hi]; omega)]; rfl)
                  (fun i j r y h1 h2 => by
                    obtain ⟨hi, hj, rfl⟩ := hat i j r y h1 h2
                    have hj' : j < (f i).1.length := by rw [hvl i hi]; exact hj
                    rw [List.getElem?_eq_getElem hj']
                    exact ((hf i hi).2.2.2 j _ y le[j] (List.getElem?_eq_getElem hj') h2 (List.getElem?_eq_getElem hj)).1)
                rw [hrows] at this
                exact this
              · intro r hr; simp only [List.mem_map, List.mem_range] at hr; obtain ⟨i, hi, rfl⟩ := hr; exact hrl i hi
              · intro r hr j y ty h1 h2
                simp only [List.mem_map, List.mem_range] at hr
                obtain ⟨i, hi, rfl⟩ := hr
                have hj : j < le.length := (List.getElem?_eq_some_iff.1 h2).1
                exact ((hf i hi).2.2.2 j _ y ty (List.getElem?_eq_getElem (by rw [hvl i hi]; exact hj)) h1 h2).2
        · cases h
      · cases h
    · rename_i fs hu
      split at h
      · rename_i l' hl'
        split at h
        · rename_i hc
          cases h
          obtain ⟨xs, m, _, _, hcl, hxl, hxs⟩ := DataW.trod_struct hu hx
          obtain ⟨ys, r⟩ := flds_rep (tr := DataW.trod enc P w base sp hd m) (fun t l cs x h1 h2 => ih t l h1 m cs x h2) cs fs.toList 0 _ hl' (fun f hf => by
            obtain ⟨i, hi, e⟩ := List.getElem_of_mem hf
            have hi' : i < fs.size := by simpa using hi
            have hfi : fs[i]? = some f := by rw [Array.getElem?_eq_getElem hi']; simpa using e
            have := hxs i f hfi
            rw [List.getElem?_eq_getElem (by omega)] at this
            exact ⟨_, this⟩)
          refine ⟨ys, ?_⟩
          rw [List.drop_zero, List.take_of_length_le (by omega)] at r
          exact r
        · cases h
      · cases h
    · cases h
end Go.Proofs.K
