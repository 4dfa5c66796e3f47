/-
  The same evaluation, each value brought to its end at once: operations.
-/
import Derived.Test.YtlcpcbaedpfemaaGreatDoorEe
set_option linter.unusedVariables false
set_option linter.unusedSimpArgs false
namespace Go.E
open Go.RowKit

/-! ### 37. The same, each value brought to its end as soon as it is had -/
section
variable {R : Type}
def sNat (n : Nat) (K : Nat → R) : R := Nat.casesOn (motive := fun _ => R) n (K 0) fun n => K (Nat.succ n)
theorem sNat_eq (n : Nat) (K : Nat → R) : sNat n K = K n := by cases n <;> rfl
def sInt (n : Int) (K : Int → R) : R := Int.casesOn (motive := fun _ => R) n (fun n => sNat n fun n => K (Int.ofNat n)) fun n => sNat n fun n => K (Int.negSucc n)
theorem sInt_eq (n : Int) (K : Int → R) : sInt n K = K n := by cases n <;> simp only [sInt, sNat_eq]
def sBool (b : Bool) (K : Bool → R) : R := Bool.casesOn (motive := fun _ => R) b (K false) (K true)
theorem sBool_eq (b : Bool) (K : Bool → R) : sBool b K = K b := by cases b <;> rfl
noncomputable def sList {α : Type} (f : α → (α → R) → R) (l : List α) : (List α → R) → R := List.rec (motive := fun _ => (List α → R) → R) (fun K => K []) (fun a _ ih K => f a fun a => ih fun l => K (a :: l)) l
theorem sList_eq {α : Type} {f : α → (α → R) → R} (hf : ∀ a K, f a K = K a) (l : List α) (K : List α → R) : sList f l K = K l := by
  induction l generalizing K with
  | nil => rfl
  | cons a l ih =>
    show f a (fun a => sList f l fun l => K (a :: l)) = _
    rw [hf]
    exact ih _
noncomputable def sU8 (u : UInt8) (K : UInt8 → R) : R := Nat.rec (motive := fun v => v < 2 ^ 8 → R) (fun h => K ⟨⟨⟨0, h⟩⟩⟩) (fun n _ h => K ⟨⟨⟨Nat.succ n, h⟩⟩⟩) u.toBitVec.toFin.val u.toBitVec.toFin.isLt
theorem sU8_eq (u : UInt8) (K : UInt8 → R) : sU8 u K = K u := by
  obtain ⟨⟨⟨v, h⟩⟩⟩ := u
  cases v <;> rfl
noncomputable def sStr (s : ByteArray) (K : ByteArray → R) : R := sList sU8 s.data.toList fun l => K ⟨⟨l⟩⟩
theorem sStr_eq (s : ByteArray) (K : ByteArray → R) : sStr s K = K s := by
  obtain ⟨⟨l⟩⟩ := s
  exact sList_eq sU8_eq _ _
/-- The head alone. -/
def sAV0 (a : AV) (K : AV → R) : R := match a with
  | .any => K .any
  | .ub => K .ub
  | .int k n => K (.int k n)
  | .bool b => K (.bool b)
  | .str s => K (.str s)
  | .emp => K .emp
  | .ro b sz n get => K (.ro b sz n get)
  | .fr e sz n get => K (.fr e sz n get)
  | .own id sz off n => K (.own id sz off n)
  | .ptr id off => K (.ptr id off)
  | .ept id sz i off => K (.ept id sz i off)
  | .pv cs => K (.pv cs)
  | .nilp => K .nilp
  | .fn f a b => K (.fn f a b)
  | .raw v => K (.raw v)
  | .agg cs => K (.agg cs)
  | .tup cs => K (.tup cs)
  | .yld id => K (.yld id)
  | .mp id => K (.mp id)
theorem sAV0_eq (a : AV) (K : AV → R) : sAV0 a K = K a := by cases a <;> rfl
noncomputable def sAVf (ih : AV → (AV → R) → R) (a : AV) (K : AV → R) : R := match a with
  | .any => K .any
  | .ub => K .ub
  | .int k n => sInt n fun n => K (.int k n)
  | .bool b => sBool b fun b => K (.bool b)
  | .str s => sStr s fun s => K (.str s)
  | .emp => K .emp
  | .ro b sz n get => sBool b fun b => sNat sz fun sz => sNat n fun n => K (.ro b sz n get)
  | .fr e sz n get => K (.fr e sz n get)
  | .own id sz off n => sNat id fun id => sNat sz fun sz => sNat off fun off => sNat n fun n => K (.own id sz off n)
  | .ptr id off => sNat id fun id => sNat off fun off => K (.ptr id off)
  | .ept id sz i off => sNat id fun id => sNat sz fun sz => sNat i fun i => sNat off fun off => K (.ept id sz i off)
  | .pv cs => sList ih cs fun cs => K (.pv cs)
  | .nilp => K .nilp
  | .fn f a b => sList ih a fun a => sList ih b fun b => K (.fn f a b)
  | .raw v => K (.raw v)
  | .agg cs => sList ih cs fun cs => K (.agg cs)
  | .tup cs => sList ih cs fun cs => K (.tup cs)
  | .yld id => sNat id fun id => K (.yld id)
  | .mp id => sNat id fun id => K (.mp id)
noncomputable def sAV (d : Nat) : AV → (AV → R) → R := Nat.rec (motive := fun _ => AV → (AV → R) → R) (fun a K => K a) (fun _ ih => sAVf ih) d
theorem sAV_eq : ∀ (d : Nat) (a : AV) (K : AV → R), sAV d a K = K a
  | 0, _, _ => rfl
  | d + 1, a, K => by
    have ih : ∀ (a : AV) (K : AV → R), sAV d a K = K a := sAV_eq d
    show sAVf (sAV d) a K = K a
    cases a <;> simp only [sAVf, sInt_eq, sBool_eq, sStr_eq, sNat_eq, sList_eq ih]
noncomputable def sBlk (b : Blk) (K : Blk → R) : R := match b with
  | .box t cs => sList (sAV 8) cs fun cs => K (.box t cs)
  | .arr e sz n get => sNat sz fun sz => sNat n fun n => K (.arr e sz n get)
  | .sit s pos => sNat pos fun pos => K (.sit s pos)
  | .map es c => K (.map es c)
  | .smap k e n D => sNat n fun n => K (.smap k e n D)
  | .mit m s l st => K (.mit m s l st)
  | .loop s p n env ps a b d => K (.loop s p n env ps a b d)
  | .dfr => K .dfr
  | .junk => K .junk
theorem sBlk_eq (b : Blk) (K : Blk → R) : sBlk b K = K b := by
  cases b <;> simp only [sBlk, sList_eq (sAV_eq 8), sNat_eq]
def sOpt {α : Type} (f : α → (α → R) → R) (o : Option α) (K : Option α → R) : R := match o with
  | none => K none
  | some a => f a fun a => K (some a)
theorem sOpt_eq {α : Type} {f : α → (α → R) → R} (hf : ∀ a K, f a K = K a) (o : Option α) (K : Option α → R) : sOpt f o K = K o := by
  cases o with
  | none => rfl
  | some a => simp only [sOpt, hf]
noncomputable def sUs : Upds → (Upds → R) → R := sList fun u K => Prod.casesOn (motive := fun _ => R) u fun i b => sNat i fun i => sOpt sBlk b fun b => K (i, b)
theorem sUs_eq (us : Upds) (K : Upds → R) : sUs us K = K us := sList_eq (fun u K => by
  obtain ⟨i, b⟩ := u
  simp only [sNat_eq, sOpt_eq sBlk_eq]) _ _
noncomputable def sTr {α : Type} (f : Nat) : Tr α → Nat → Option α → (Tr α → R) → R := Nat.rec (motive := fun _ => Tr α → Nat → Option α → (Tr α → R) → R) (fun t _ _ K => K t)
  (fun _ ih t k v K => Nat.casesOn (motive := fun _ => R) k (Tr.casesOn (motive := fun _ => R) t (K (.node .leaf v .leaf)) fun l _ r => K (.node l v r))
    fun k => sNat (k / 2) fun h => Bool.casesOn (motive := fun _ => R) (Nat.beq (k % 2) 0)
      (Tr.casesOn (motive := fun _ => R) t (ih .leaf h v fun r => K (.node .leaf none r)) fun l x r => ih r h v fun r => K (.node l x r))
      (Tr.casesOn (motive := fun _ => R) t (ih .leaf h v fun l => K (.node l none .leaf)) fun l x r => ih l h v fun l => K (.node l x r))) f
theorem sTr_eq {α : Type} : ∀ (f : Nat) (t : Tr α) (k : Nat) (v : Option α) (K : Tr α → R), sTr f t k v K = K (Tr.setF f t k v)
  | 0, _, _, _, _ => rfl
  | f + 1, t, 0, v, K => by cases t <;> rfl
  | f + 1, t, k + 1, v, K => by
    have ih : ∀ (t : Tr α) (k : Nat) (v : Option α) (K : Tr α → R), sTr f t k v K = K (Tr.setF f t k v) := sTr_eq f
    show sNat (k / 2) (fun h => Bool.casesOn (motive := fun _ => R) (Nat.beq (k % 2) 0)
      (Tr.casesOn (motive := fun _ => R) t (sTr f .leaf h v fun r => K (.node .leaf none r)) fun l x r => sTr f r h v fun r => K (.node l x r))
      (Tr.casesOn (motive := fun _ => R) t (sTr f .leaf h v fun l => K (.node l none .leaf)) fun l x r => sTr f l h v fun l => K (.node l x r))) = _
    rw [sNat_eq]
    simp only [Tr.setF]
    cases hb : Nat.beq (k % 2) 0 <;> cases t <;> simp only [ih] <;> rfl
noncomputable def sSet {α : Type} (t : Tr α) (k : Nat) (v : Option α) (K : Tr α → R) : R := sTr (k + 1) t k v K
theorem sSet_eq {α : Type} (t : Tr α) (k : Nat) (v : Option α) (K : Tr α → R) : sSet t k v K = K (t.set k v) := sTr_eq _ _ _ _ _
noncomputable def putS (env : Tr AV) (d : Option Tmp) (a : AV) (K : Tr AV → R) : R := match d with
  | none => K env
  | some t => sSet env t (some a) K
theorem putS_eq (env : Tr AV) (d : Option Tmp) (a : AV) (K : Tr AV → R) : putS env d a K = K (putE env d a) := by
  cases d with
  | none => rfl
  | some t => exact sSet_eq _ _ _ _
/-- What is laid is at its end. -/
noncomputable def appS (us : Upds) : Tr Blk → (Tr Blk → R) → R := List.rec (motive := fun _ => Tr Blk → (Tr Blk → R) → R) (fun t K => K t) (fun u _ ih t K => Prod.casesOn (motive := fun _ => R) u fun i b => sSet t i b fun t => ih t K) us
theorem appS_eq (us : Upds) (t : Tr Blk) (K : Tr Blk → R) : appS us t K = K (Tr.app us t) := by
  induction us generalizing t with
  | nil => rfl
  | cons u us ih =>
    obtain ⟨i, b⟩ := u
    show sSet t i b (fun t => appS us t K) = _
    rw [sSet_eq]
    exact ih _
end

section
variable {R : Type} (A : Alg R) (P : Program) (cl : CallE R) (cd : CallD)
noncomputable def guardS (ops : Array Oper) (o : Oper) (st : St) (yes no : St → R) : R :=
  match o.guard with
  | none => yes st
  | some (j, want) => match (ops[j]?).bind (·.dst) with
    | none => A.ff
    | some g => match St.tm st.env g with
      | .bool b => A.ite b (fun _ => sSet st.env g (some (.bool true)) fun env => (bif want then yes else no) { st with env := env }) fun _ => sSet st.env g (some (.bool false)) fun env => (bif want then no else yes) { st with env := env }
      | .raw (.tuple _) => no st
      | _ => A.ff
theorem guardS_eq (ops : Array Oper) (o : Oper) (st : St) (yes no : St → R) : guardS A ops o st yes no = guardR A ops o st yes no := by
  unfold guardS guardR
  simp only [sSet_eq]
  try rfl
noncomputable def execS (o : Oper) (st : St) (K : St → R) : R :=
  match o.op with
  | .move x => sAV0 (St.τ st.env x) fun a => putS st.env o.dst a fun env => sNat (st.nx + 4) fun nx => K ⟨env, st.H, nx⟩
  | .assign x => sAV0 (St.τ st.env x) fun a => putS st.env o.dst a fun env => sNat (st.nx + 4) fun nx => K ⟨env, st.H, nx⟩
  | .call ⟨.value f, args, _⟩ => sAV0 (St.τ st.env f) fun f => sList sAV0 (args.toList.map (St.τ st.env)) fun as => cl f as st.H st.nx fun a H nx => putS st.env o.dst a fun env => K ⟨env, H, nx⟩
  | _ => match effD P st.H.get st.nx o (St.τ st.env) with
    | some (c, a, us) => A.req c fun _ => sAV 8 a fun a => putS st.env o.dst a fun env => sUs us fun us => appS us st.H fun H => sNat (st.nx + 4) fun nx => K ⟨env, H, nx⟩
    | none => A.ff
theorem execS_eq (hreq : ∀ r : R, A.req true (fun _ => r) = r) (o : Oper) (st : St) (K : St → R) : execS A P cl o st K = execR A P cl o st K := by
  unfold execS execR
  obtain ⟨dst, op, type, pos, after, guard⟩ := o
  cases op with
  | move x => simp only [sAV0_eq, putS_eq, sNat_eq, effD, othD, xtraD, sameD, ok1, hreq]; try rfl
  | assign x => simp only [sAV0_eq, putS_eq, sNat_eq, effD, othD, xtraD, sameD, ok1, hreq]; try rfl
  | call c =>
    obtain ⟨callee, args, ts⟩ := c
    cases callee with
    | value f => simp only [sAV0_eq, sList_eq sAV0_eq, putS_eq]
    | _ => (simp only [sAV_eq, putS_eq, sUs_eq, appS_eq, sNat_eq]; try rfl)
  | _ => (simp only [sAV_eq, putS_eq, sUs_eq, appS_eq, sNat_eq]; try rfl)
noncomputable def skipS (o : Oper) (st : St) (K : St → R) : R := putS st.env o.dst (.raw undef) fun env => K { st with env := env }
theorem skipS_eq (o : Oper) (st : St) (K : St → R) : skipS o st K = skipR o st K := putS_eq _ _ _ _
noncomputable def regSS (ops : Array Oper) (l : List Oper) : St → (St → R) → R := List.rec (motive := fun _ => St → (St → R) → R) (fun st K => K st)
  (fun o _ ih st K => guardS A ops o st (fun st => execS A P cl o st fun st => ih st K) fun st => skipS o st fun st => ih st K) l
theorem regSS_eq (hreq : ∀ r : R, A.req true (fun _ => r) = r) (ops : Array Oper) (l : List Oper) (st : St) (K : St → R) : regSS A P cl ops l st K = regS A P cl ops l st K := by
  induction l generalizing st with
  | nil => rfl
  | cons o l ih =>
    show guardS A ops o st (fun st => execS A P cl o st fun st => regSS A P cl ops l st K) (fun st => skipS o st fun st => regSS A P cl ops l st K) = _
    simp only [guardS_eq, execS_eq A P cl hreq, skipS_eq, ih]
    try rfl

noncomputable def sRestr (H : Hp) (l : List Nat) : (Tr Blk → R) → R := List.rec (motive := fun _ => (Tr Blk → R) → R) (fun K => K .leaf) (fun i _ ih K => ih fun t => sOpt (fun b K => K b) (H i) fun b => sSet t i b K) l
theorem sRestr_eq (H : Hp) (l : List Nat) (K : Tr Blk → R) : sRestr H l K = K (restrT H l) := by
  induction l generalizing K with
  | nil => rfl
  | cons i l ih =>
    show sRestr H l (fun t => sOpt (fun b K => K b) (H i) fun b => sSet t i b K) = _
    rw [ih]
    simp only [sOpt_eq (f := fun b K => K b) (fun _ _ => rfl), sSet_eq]
    try rfl
noncomputable def sUs0 : Upds → (Upds → R) → R := sList fun u K => Prod.casesOn (motive := fun _ => R) u fun i b => sOpt (fun b K => K b) b fun b => K (i, b)
theorem sUs0_eq (us : Upds) (K : Upds → R) : sUs0 us K = K us := sList_eq (fun u K => by
  obtain ⟨i, b⟩ := u
  exact sOpt_eq (fun _ _ => rfl) _ _) _ _
noncomputable def callRecS (g : AV) (as : List AV) (st : St) (Kn : R) (Ks : Bool → Rec → R) : R :=
  sList sNat (reach 4096 st.H.get (refs 6 g ++ as.flatMap (refs 6)) []) fun L => sRestr st.H.get L fun T =>
  match cd g as T st.nx with
  | some (a, T', nx') => sList sNat (reach 4096 T'.get (refs 6 a ++ L) []) fun S => sUs0 (setsU (L ++ S) T'.get) fun us =>
    Ks (L.all (fun k => (st.H.get k).isSome) && us.all (fun u => L.any (Nat.beq u.1) || (Nat.ble st.nx u.1 && Nat.blt u.1 nx'))) ⟨true, a, L, us, st.nx, nx'⟩
  | none => Kn
theorem callRecS_eq (g : AV) (as : List AV) (st : St) (Kn : R) (Ks : Bool → Rec → R) : callRecS cd g as st Kn Ks = (match callRec cd g as st with
    | some (c, r) => Ks c r
    | none => Kn) := by
  unfold callRecS callRec
  simp only [sList_eq sNat_eq, sRestr_eq, sUs0_eq]
  split <;> simp_all
noncomputable def opRecS (o : Oper) (st : St) (Kn : R) (Ks : Bool → Rec → R) : R :=
  match o.op with
  | .move x => sAV0 (St.τ st.env x) fun a => sNat (st.nx + 4) fun hi => Ks true ⟨true, a, [], [], st.nx, hi⟩
  | .call ⟨.value f, args, _⟩ => sAV0 (St.τ st.env f) fun f => sList sAV0 (args.toList.map (St.τ st.env)) fun as => callRecS cd f as st Kn Ks
  | _ => sList sNat (ftp o (St.τ st.env)) fun F => match effD P (restrF st.H.get F) st.nx o (St.τ st.env) with
    | some (c, a, us) => sAV 8 a fun a => sUs us fun us => sNat (st.nx + 4) fun hi => Ks c ⟨true, a, F, us, st.nx, hi⟩
    | none => Kn
theorem opRecS_eq (o : Oper) (st : St) (Kn : R) (Ks : Bool → Rec → R) : opRecS P cd o st Kn Ks = (match opRec P cd o st with
    | some (c, r) => Ks c r
    | none => Kn) := by
  unfold opRecS opRec effRec
  obtain ⟨dst, op, type, pos, after, guard⟩ := o
  cases op with
  | move x => simp only [sAV0_eq, sNat_eq, effD, othD, xtraD, sameD, ok1, ftp, clsOf]
  | call c =>
    obtain ⟨callee, args, ts⟩ := c
    cases callee with
    | value f => simp only [sAV0_eq, sList_eq sAV0_eq, callRecS_eq]
    | _ => (simp only [sAV_eq, sUs_eq, sNat_eq, sList_eq sNat_eq]; split <;> simp_all)
  | _ => (simp only [sAV_eq, sUs_eq, sNat_eq, sList_eq sNat_eq]; split <;> simp_all)
def okPair (ops : Array Oper) (i j : Nat) (r s : Rec) : Bool := (!clashB r s && !clashB s r) || aheadB ops i j
def dynS (ops : Array Oper) (acc : List Rec) : Bool := bif acc.all (fun r => r.us.isEmpty) then true else dynB ops fun i => acc.reverse.getD i default
theorem dynS_eq (ops : Array Oper) (acc : List Rec) : dynS ops acc = dynB ops fun i => acc.reverse.getD i default := by
  unfold dynS
  cases h : acc.all (fun r => r.us.isEmpty) with
  | false => rfl
  | true =>
    have hus : ∀ i, (acc.reverse.getD i default).us = [] := fun i => by
      rw [List.getD_eq_getElem?_getD]
      cases hg : acc.reverse[i]? with
      | none => rfl
      | some r =>
        have := List.all_eq_true.1 h r (List.mem_reverse.1 (List.mem_of_getElem? hg))
        simpa using this
    have hd : dynB ops (fun i => acc.reverse.getD i default) = true := by
      unfold dynB
      rw [List.all_eq_true]
      intro j _
      rw [List.all_eq_true]
      intro i _
      simp only [clashB, hus, List.any_nil, Bool.not_false, Bool.and_self, Bool.true_or]
    rw [hd]; try rfl
noncomputable def regDS (ops : Array Oper) (l : List Oper) : List Rec → St → (St → R) → R := List.rec (motive := fun _ => List Rec → St → (St → R) → R) (fun acc st K => A.req (dynS ops acc) fun _ => K st)
  (fun o _ ih acc st K => guardS A ops o st
    (fun st => opRecS P cd o st A.ff fun c r => A.req c fun _ => putS st.env o.dst r.a fun env => appS r.us st.H fun H => ih (r :: acc) ⟨env, H, r.hi⟩ K)
    fun st => putS st.env o.dst (.raw undef) fun env => ih (⟨false, .raw undef, [], [], st.nx, st.nx⟩ :: acc) { st with env := env } K) l
theorem regDS_eq (ops : Array Oper) (l : List Oper) (acc : List Rec) (st : St) (K : St → R) : regDS A P cd ops l acc st K = regD A P cd ops l acc st K := by
  induction l generalizing acc st with
  | nil => show A.req (dynS ops acc) _ = _; rw [dynS_eq]; try rfl
  | cons o l ih =>
    show guardS A ops o st (fun st => opRecS P cd o st A.ff fun c r => A.req c fun _ => putS st.env o.dst r.a fun env => appS r.us st.H fun H => regDS A P cd ops l (r :: acc) ⟨env, H, r.hi⟩ K)
      (fun st => putS st.env o.dst (.raw undef) fun env => regDS A P cd ops l (⟨false, .raw undef, [], [], st.nx, st.nx⟩ :: acc) { st with env := env } K) = _
    simp only [guardS_eq, opRecS_eq, putS_eq, appS_eq, ih]
    try rfl
end
end Go.E
