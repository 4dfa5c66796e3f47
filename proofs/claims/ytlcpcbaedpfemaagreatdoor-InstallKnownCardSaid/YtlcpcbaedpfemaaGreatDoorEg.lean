/-
  The same evaluation, each value brought to its end at once: calls; tables of calls at plain data.
-/
import Derived.Test.YtlcpcbaedpfemaaGreatDoorEf
set_option linter.unusedVariables false
set_option linter.unusedSimpArgs false
namespace Go.E
open Go.RowKit

/-! ### 38. Code and calls, strictly -/
section
variable {R : Type}
noncomputable def envS (as : List AV) : Nat → Tr AV → (Tr AV → R) → R := List.rec (motive := fun _ => Nat → Tr AV → (Tr AV → R) → R) (fun _ t K => K t) (fun a _ ih k t K => sAV0 a fun a => sSet t k (some a) fun t => sNat (k + 1) fun k => ih k t K) as
theorem envS_eq (as : List AV) (k : Nat) (t : Tr AV) (K : Tr AV → R) : envS as k t K = K (envL k as t) := by
  induction as generalizing k t with
  | nil => rfl
  | cons a as ih =>
    show sAV0 a (fun a => sSet t k (some a) fun t => sNat (k + 1) fun k => envS as k t K) = _
    rw [sAV0_eq, sSet_eq, sNat_eq]
    exact ih _ _
noncomputable def putLS (l : List (Tmp × AV)) : Tr AV → (Tr AV → R) → R := List.rec (motive := fun _ => Tr AV → (Tr AV → R) → R) (fun t K => K t) (fun x _ ih t K => Prod.casesOn (motive := fun _ => R) x fun i a => sAV0 a fun a => sSet t i (some a) fun t => ih t K) l
theorem putLS_eq (l : List (Tmp × AV)) (t : Tr AV) (K : Tr AV → R) : putLS l t K = K (putL t l) := by
  induction l generalizing t with
  | nil => rfl
  | cons x l ih =>
    obtain ⟨i, a⟩ := x
    show sAV0 a (fun a => sSet t i (some a) fun t => putLS l t K) = _
    rw [sAV0_eq, sSet_eq]
    exact ih _
end
section
variable {R : Type} (A : Alg R) (P : Program) (cl : CallE R) (cd : CallD) (inr : Bool) (n m : Nat)
noncomputable def iterS (f : List Nat → St → CodeK R → R) (m : Nat) : List Nat → St → CodeK R → R := Nat.rec (motive := fun _ => List Nat → St → CodeK R → R) (fun _ _ _ => A.ff)
  (fun _ ih df st K => f df st fun e df st => match e with
    | .norm => ih df st K
    | e => K e df st) m
theorem iterS_eq (f : List Nat → St → CodeK R → R) (m : Nat) (df : List Nat) (st : St) (K : CodeK R) : iterS A f m df st K = iterR A f m df st K := by
  induction m generalizing df st with
  | zero => rfl
  | succ m ih =>
    show (f df st fun e df st => match e with
      | .norm => iterS A f m df st K
      | e => K e df st) = _
    simp only [ih]
    try rfl
noncomputable def scopeS (f : Option Nat → List Nat → St → CodeK R → R) (has : Nat → Bool) (m : Nat) : Option Nat → List Nat → St → CodeK R → R := Nat.rec (motive := fun _ => Option Nat → List Nat → St → CodeK R → R) (fun _ _ _ _ => A.ff)
  (fun _ ih s df st K => f s df st fun e df st => match e with
    | .goto l => bif has l then ih (some l) df st K else K (.goto l) df st
    | e => K e df st) m
theorem scopeS_eq (f : Option Nat → List Nat → St → CodeK R → R) (has : Nat → Bool) (m : Nat) (s : Option Nat) (df : List Nat) (st : St) (K : CodeK R) : scopeS A f has m s df st K = scopeR A f has m s df st K := by
  induction m generalizing s df st with
  | zero => rfl
  | succ m ih =>
    show (f s df st fun e df st => match e with
      | .goto l => bif has l then scopeS A f has m (some l) df st K else K (.goto l) df st
      | e => K e df st) = _
    simp only [ih]
    try rfl
noncomputable def codeS : Code → Option Nat → List Nat → St → CodeK R → R
  | .skip, none, df, st, K => K .norm df st
  | .label _, _, df, st, K => K .norm df st
  | .exit id, none, df, st, K => K (.exit id) df st
  | .goto l, none, df, st, K => K (.goto l) df st
  | .ret, none, df, st, K => K .ret df st
  | .region _ ops draw, none, df, st, K => A.req (dstB n ops) fun _ => bif draw then A.req (staticB ops) fun _ => regDS A P cd ops ops.toList [] st fun st => K .norm df st
      else regSS A P cl ops ops.toList st fun st => K .norm df st
  | .seq a b, s, df, st, K => bif startsIn a s then codeS a s df st (fun e df st => match e with
    | .norm => codeS b none df st K
    | e => K e df st) else codeS b s df st K
  | .cond c a b, none, df, st, K => match St.τ st.env c with
    | .bool t => A.ite t (fun _ => codeS a none df st K) fun _ => codeS b none df st K
    | _ => A.ff
  | .block id c, none, df, st, K => codeS c none df st fun e df st => match e with
    | .exit i => if i = id then K .norm df st else K (.exit i) df st
    | e => K e df st
  | .loop c, none, df, st, K => iterS A (codeS c none) m df st K
  | .scope c, none, df, st, K => scopeS A (codeS c) (fun l => (findLabel c l).isSome) m none df st K
  | .rangeFunc g ps assign body, none, df, st, K => bif inr then A.ff else match St.τ st.env g with
    | .fn (.func f) first cap => A.req (callB P f) fun _ => sNat (st.nx + 1) fun nx1 => sSet st.H st.nx (some .dfr) fun H => sSet H nx1 (some (.loop .ready none n st.env ps assign body st.nx)) fun H => sNat (st.nx + 4) fun nx4 => (cl (.fn (.func f) first cap) [.yld nx1] H nx4 fun _ H nx =>
        match H.get nx1 with
        | some (.loop s p _ _ _ _ _ _) => A.req (notBusy s) fun _ => jumpR A p fun e => sSet H nx1 none fun H => K e (st.nx :: df) ⟨st.env, H, nx⟩
        | _ => A.ff)
    | _ => A.ff
  | _, _, _, _, _ => A.ff
theorem codeS_eq (hreq : ∀ r : R, A.req true (fun _ => r) = r) : ∀ (c : Code) (s : Option Nat) (df : List Nat) (st : St) (K : CodeK R), codeS A P cl cd inr n m c s df st K = codeR A P cl cd inr n m c s df st K := by
  intro c
  induction c with
  | region id ops draw => intro s df st K; cases s <;> simp only [codeS, codeR, regDS_eq, regSS_eq A P cl hreq]
  | seq a b iha ihb => intro s df st K; simp only [codeS, codeR, iha, ihb]; try rfl
  | cond c a b iha ihb => intro s df st K; cases s <;> simp only [codeS, codeR, iha, ihb]; try rfl
  | block id c ih => intro s df st K; cases s <;> simp only [codeS, codeR, ih]; try rfl
  | loop c ih =>
    intro s df st K
    have : codeS A P cl cd inr n m c none = codeR A P cl cd inr n m c none := by funext df st K; exact ih none df st K
    cases s <;> simp only [codeS, codeR, this, iterS_eq]
  | scope c ih =>
    intro s df st K
    have : codeS A P cl cd inr n m c = codeR A P cl cd inr n m c := by funext s df st K; exact ih s df st K
    cases s <;> simp only [codeS, codeR, this, scopeS_eq]
  | rangeFunc g ps assign body _ _ => intro s df st K; cases s <;> simp only [codeS, codeR, sNat_eq, sSet_eq]; try rfl
  | _ => intro s df st K; cases s <;> rfl
end
section
variable {R : Type} (A : Alg R) (P : Program) (ex : ExE) (m : Nat) (cl : CallE R) (cd : CallD)
noncomputable def fnS (g : FuncId) (as : List AV) (H : Tr Blk) (nx : Nat) (K : AV → Tr Blk → Nat → R) : R :=
  match P.funcs[g]? with
  | none => A.ff
  | some fn => match fn.body with
    | none => (match ex g as H.get with
      | some (c, a) => A.req c fun _ => sAV 8 a fun a => K a H nx
      | none => A.ff)
    | some c => A.req (callB P g && Nat.ble as.length fn.ntmps) fun _ => envS as 0 .leaf fun env => codeS A P cl cd false fn.ntmps m c none [] ⟨env, H, nx⟩ fun e df st => match e with
      | .exit _ => A.ff
      | .goto _ => A.ff
      | _ => match dropDf df st.H with
        | none => A.ff
        | some H => match resA P fn H.get st.env with
          | some (c, a) => A.req c fun _ => sAV 8 a fun a => K a H st.nx
          | none => A.ff
theorem fnS_eq (hreq : ∀ r : R, A.req true (fun _ => r) = r) (g : FuncId) (as : List AV) (H : Tr Blk) (nx : Nat) (K : AV → Tr Blk → Nat → R) : fnS A P ex m cl cd g as H nx K = fnR A P ex m cl cd g as H nx K := by
  unfold fnS fnR
  simp only [sAV_eq, envS_eq, codeS_eq A P cl cd false _ m hreq]
  try rfl
noncomputable def ydS (id : Nat) (args : List AV) (H : Tr Blk) (nx : Nat) (K : AV → Tr Blk → Nat → R) : R :=
  match H.get id with
  | some (.loop .ready _ n env ps assign body _) => A.req (Nat.beq args.length ps.size && ps.all (Nat.blt · n)) fun _ => putLS (ps.toList.zip args) env fun env => (codeS A P cl cd true n m assign none [] ⟨env, H, nx⟩ fun e df st => match e with
    | .norm => (match st.H.get id with
      | some (.loop .ready p n' env' ps' as' bo' d') => sSet st.H id (some (.loop .busy p n' env' ps' as' bo' d')) fun H => codeS A P cl cd true n m body none df ⟨st.env, H, st.nx⟩ fun e _ st =>
        match st.H.get id with
        | some (.loop _ _ n' env' ps' as' bo' d') => (match e with
          | .norm => sSet st.H id (some (.loop .ready none n' env' ps' as' bo' d')) fun H => K (.bool true) H st.nx
          | .ret => sSet st.H id (some (.loop .done (some .ret) n' env' ps' as' bo' d')) fun H => K (.bool false) H st.nx
          | .goto i => sSet st.H id (some (.loop .done (some (.goto i)) n' env' ps' as' bo' d')) fun H => K (.bool false) H st.nx
          | .exit i => sSet st.H id (some (.loop .done (some (.exit i)) n' env' ps' as' bo' d')) fun H => K (.bool false) H st.nx)
        | _ => A.ff
      | _ => A.ff)
    | _ => A.ff)
  | _ => A.ff
theorem ydS_eq (hreq : ∀ r : R, A.req true (fun _ => r) = r) (id : Nat) (args : List AV) (H : Tr Blk) (nx : Nat) (K : AV → Tr Blk → Nat → R) : ydS A P m cl cd id args H nx K = ydR A P m cl cd id args H nx K := by
  unfold ydS ydR
  simp only [putLS_eq, sSet_eq, codeS_eq A P cl cd true _ m hreq]
  try rfl
noncomputable def callS : CallE R := fun f args H nx K => match f with
  | .fn (.func g) first cap => fnS A P ex m cl cd g (first ++ (args ++ cap)) H nx K
  | .yld id => ydS A P m cl cd id args H nx K
  | _ => A.ff
theorem callS_eq (hreq : ∀ r : R, A.req true (fun _ => r) = r) : callS A P ex m cl cd = callStep A P ex m cl cd := by
  funext f args H nx K
  unfold callS callStep
  simp only [fnS_eq A P ex m cl cd hreq, ydS_eq A P m cl cd hreq]
  try rfl
end
noncomputable def resS (cd : CallD) : CallD := fun g as H nx => callRecS cd g as ⟨.leaf, H, nx⟩ none fun c r => bif c then appS r.us H fun H => some (r.a, H, r.hi) else none
theorem resS_eq (cd : CallD) : resS cd = resD cd := by
  funext g as H nx
  unfold resS resD
  simp only [callRecS_eq, appS_eq]
  try rfl
noncomputable def fnT (P : Program) (ex : ExE) (c : CallD) (m : Nat) (f : Nat) : CallD := Nat.rec (motive := fun _ => CallD) (fun _ _ _ _ => none)
  (fun _ ih g as H nx => match c g as H nx with
    | some r => some r
    | none => callS (optAlg Ans) P ex m (clOf (optAlg Ans) (resS ih)) ih g as H nx ansK) f
theorem fnT_eq (P : Program) (ex : ExE) (c : CallD) (m : Nat) : ∀ f, fnT P ex c m f = fnG P ex c m f
  | 0 => rfl
  | f + 1 => by
    funext g as H nx
    show (match c g as H nx with
      | some r => some r
      | none => callS (optAlg Ans) P ex m (clOf (optAlg Ans) (resS (fnT P ex c m f))) (fnT P ex c m f) g as H nx ansK) = _
    rw [fnT_eq P ex c m f, resS_eq, callS_eq (optAlg Ans) P ex m _ _ (fun _ => rfl)]
    try rfl
theorem fnT_ok {P : Program} {ex : ExE} (hex : ExOk P ex) {c : CallD} (hc : CdOk P c) (m : Nat) (hmx : P.follows .mixedOrders = true) (f : Nat) : CdOk P (fnT P ex c m f) := by
  rw [fnT_eq]; exact fnG_ok hex hc m hmx f

/-! ### 39. Calls at plain data, kept -/
inductive PV where
  | int (k : IntKind) (n : Int)
  | bool (b : Bool)
  | str (l : List UInt8)
  | nil
  | nilp
  | row (sz : Nat) (rows : List (List PV))
  | agg (cs : List PV)
mutual
def ofPV : PV → AV
  | .int k n => .int k n
  | .bool b => .bool b
  | .str l => .str ⟨⟨l⟩⟩
  | .nil => .emp
  | .nilp => .nilp
  | .row sz rows => .ro false sz rows.length fun i => (ofPVss rows).getD i []
  | .agg cs => .agg (ofPVs cs)
def ofPVs : List PV → List AV
  | [] => []
  | p :: ps => ofPV p :: ofPVs ps
def ofPVss : List (List PV) → List (List AV)
  | [] => []
  | r :: rs => ofPVs r :: ofPVss rs
end
theorem ofPVs_map (l : List PV) : ofPVs l = l.map ofPV := by
  induction l with
  | nil => simp [ofPVs]
  | cons p ps ih => simp [ofPVs, ih]
theorem ofPVss_map (l : List (List PV)) : ofPVss l = l.map ofPVs := by
  induction l with
  | nil => simp [ofPVss]
  | cons p ps ih => simp [ofPVss, ih]
def allO {α β : Type} (f : α → Option β) : List α → Option (List β)
  | [] => some []
  | a :: l => match f a, allO f l with
    | some b, some bs => some (b :: bs)
    | _, _ => none
theorem allO_ok {α β : Type} {f : α → Option β} : ∀ {l : List α} {bs : List β}, allO f l = some bs → bs.length = l.length ∧ ∀ (j : Nat) (a : α) (b : β), l[j]? = some a → bs[j]? = some b → f a = some b
  | [], bs, h => by cases h; exact ⟨rfl, fun j a b ha => by simp at ha⟩
  | a :: l, bs, h => by
    simp only [allO] at h
    split at h
    · rename_i b bs' h1 h2
      cases h
      obtain ⟨h3, h4⟩ := allO_ok h2
      refine ⟨by simp [h3], fun j x y hx hy => ?_⟩
      cases j with
      | zero => simp at hx hy; subst hx; subst hy; exact h1
      | succ j => exact h4 j x y (by simpa using hx) (by simpa using hy)
    · cases h
def toPV : Nat → AV → Option PV
  | 0, _ => none
  | _ + 1, .int k n => some (.int k n)
  | _ + 1, .bool b => some (.bool b)
  | _ + 1, .str s => some (.str s.data.toList)
  | _ + 1, .emp => some .nil
  | _ + 1, .nilp => some .nilp
  | d + 1, .ro _ sz n get => (allO (fun i => allO (toPV d) (get i)) (List.range n)).map (.row sz)
  | d + 1, .agg cs => (allO (toPV d) cs).map .agg
  | _ + 1, _ => none
theorem toPV_ok {P : Program} {E : En} : ∀ (d : Nat) (a : AV) (p : PV) (v : Value), toPV d a = some p → Cv P E a v → Cv P E (ofPV p) v := by
  intro d
  induction d with
  | zero => intro a p v h; cases h
  | succ d ih =>
    have lst : ∀ {cs : List AV} {ps : List PV}, allO (toPV d) cs = some ps → (ofPVs ps).length = cs.length ∧ ∀ (j : Nat) (x : AV) (v : Value), (ofPVs ps)[j]? = some x → (∀ a, cs[j]? = some a → Cv P E a v) → Cv P E x v := fun {cs ps} h => by
      obtain ⟨h1, h2⟩ := allO_ok h
      rw [ofPVs_map]
      refine ⟨by simpa using h1, fun j x v hx hc => ?_⟩
      obtain ⟨p, hp, rfl⟩ := map_get hx
      have hj : j < cs.length := by have := (List.getElem?_eq_some_iff.1 hp).1; omega
      exact ih _ p v (h2 j cs[j] p (List.getElem?_eq_getElem hj) hp) (hc _ (List.getElem?_eq_getElem hj))
    intro a p v h hc
    cases hc <;> simp only [toPV, Option.some.injEq, reduceCtorEq] at h
    case int k n => subst h; simp only [ofPV]; exact .int _ _
    case bool b => subst h; simp only [ofPV]; exact .bool _
    case str s => subst h; simp only [ofPV]; exact .str s
    case emp => subst h; simp only [ofPV]; exact .emp
    case nilp => subst h; simp only [ofPV]; exact .nilp
    case ro born sz n get A c val hcc hA hl hv hb =>
      obtain ⟨rows, h1, rfl⟩ := map_some h
      obtain ⟨h2, h3⟩ := allO_ok h1
      simp only [List.length_range] at h2
      simp only [ofPV]
      rw [h2]
      have row : ∀ i, i < n → ∃ ps, rows[i]? = some ps ∧ allO (toPV d) (get i) = some ps ∧ (ofPVss rows).getD i [] = ofPVs ps := fun i hi => by
        have hi' : i < rows.length := by omega
        refine ⟨rows[i], List.getElem?_eq_getElem hi', h3 i i rows[i] (by rw [List.getElem?_range hi]) (List.getElem?_eq_getElem hi'), ?_⟩
        rw [ofPVss_map, List.getD_eq_getElem?_getD, List.getElem?_map, List.getElem?_eq_getElem hi']
        rfl
      refine .ro val hcc hA (fun i hi => ?_) (fun i j a hi ha => ?_) (fun h => by cases h)
      · obtain ⟨ps, _, q2, q3⟩ := row i hi
        rw [q3, (lst q2).1]
        exact hl i hi
      · obtain ⟨ps, _, q2, q3⟩ := row i hi
        rw [q3] at ha
        exact (lst q2).2 j a _ ha fun b hb => hv i j b hi hb
    case agg cs vs q1 q2 =>
      obtain ⟨ps, h1, rfl⟩ := map_some h
      obtain ⟨h2, h3⟩ := lst h1
      simp only [ofPV]
      refine .agg (by omega) fun j a v ha hv => h3 j a v ha fun b hb => q2 j b v hb hv
mutual
def eqPV : PV → PV → Bool
  | .int .i64 n, .int .i64 m => eqI n m
  | .int .u8 n, .int .u8 m => eqI n m
  | .bool a, .bool b => a == b
  | .str a, .str b => eqL a b
  | .nil, .nil => true
  | .nilp, .nilp => true
  | .row s a, .row t b => bif Nat.beq s t then eqPVss a b else false
  | .agg a, .agg b => eqPVs a b
  | _, _ => false
def eqPVs : List PV → List PV → Bool
  | [], [] => true
  | a :: as, b :: bs => bif eqPV a b then eqPVs as bs else false
  | _, _ => false
def eqPVss : List (List PV) → List (List PV) → Bool
  | [], [] => true
  | a :: as, b :: bs => bif eqPVs a b then eqPVss as bs else false
  | _, _ => false
def eqI : Int → Int → Bool
  | .ofNat a, .ofNat b => Nat.beq a b
  | .negSucc a, .negSucc b => Nat.beq a b
  | _, _ => false
end
theorem eqI_ok {a b : Int} (h : eqI a b = true) : a = b := by
  cases a <;> cases b <;> simp only [eqI, Bool.false_eq_true] at h <;> rw [Nat.eq_of_beq_eq_true h]
theorem cond_and {a b : Bool} (h : (bif a then b else false) = true) : a = true ∧ b = true := by
  cases a
  · cases h
  · exact ⟨rfl, h⟩
mutual
theorem eqPV_ok : ∀ {a b : PV}, eqPV a b = true → a = b
  | .row s a, b, h => by
    cases b <;> simp only [eqPV, Bool.false_eq_true] at h
    obtain ⟨h1, h2⟩ := cond_and h
    rw [Nat.eq_of_beq_eq_true h1, eqPVss_ok h2]
  | .agg a, b, h => by
    cases b <;> simp only [eqPV, Bool.false_eq_true] at h
    rw [eqPVs_ok h]
  | .int k n, b, h => by
    cases b with
    | int k' m => cases k <;> cases k' <;> simp only [eqPV, Bool.false_eq_true] at h <;> rw [eqI_ok h]
    | _ => cases k <;> simp [eqPV] at h
  | .bool x, b, h => by
    cases b <;> simp only [eqPV, Bool.false_eq_true] at h
    rw [eq_of_beq h]
  | .str x, b, h => by
    cases b <;> simp only [eqPV, Bool.false_eq_true] at h
    rw [eqL_ok h]
  | .nil, b, h => by cases b <;> simp only [eqPV, Bool.false_eq_true] at h; rfl
  | .nilp, b, h => by cases b <;> simp only [eqPV, Bool.false_eq_true] at h; rfl
theorem eqPVs_ok : ∀ {a b : List PV}, eqPVs a b = true → a = b
  | [], [], _ => rfl
  | [], _ :: _, h => by simp [eqPVs] at h
  | _ :: _, [], h => by simp [eqPVs] at h
  | a :: as, b :: bs, h => by
    simp only [eqPVs] at h
    obtain ⟨h1, h2⟩ := cond_and h
    rw [eqPV_ok h1, eqPVs_ok h2]
theorem eqPVss_ok : ∀ {a b : List (List PV)}, eqPVss a b = true → a = b
  | [], [], _ => rfl
  | [], _ :: _, h => by simp [eqPVss] at h
  | _ :: _, [], h => by simp [eqPVss] at h
  | a :: as, b :: bs, h => by
    simp only [eqPVss] at h
    obtain ⟨h1, h2⟩ := cond_and h
    rw [eqPVs_ok h1, eqPVss_ok h2]
end
abbrev Tab := List (FuncId × List PV × AV)
def tabGet (k : List PV) (g : FuncId) : Tab → Option AV
  | [] => none
  | (g', k', a) :: t => bif Nat.beq g' g then bif eqPVs k' k then some a else tabGet k g t else tabGet k g t
def hasF (g : FuncId) : Tab → Bool
  | [] => false
  | (g', _, _) :: t => bif Nat.beq g' g then true else hasF g t
def tabPt (t : Tab) : PTab := fun g as => bif hasF g t then (match allO (toPV 8) as with
  | some k => tabGet k g t
  | none => none) else none
theorem tabGet_mem {k : List PV} {g : FuncId} : ∀ {t : Tab} {a : AV}, tabGet k g t = some a → (g, k, a) ∈ t
  | [], _, h => by cases h
  | (g', k', a') :: t, a, h => by
    simp only [tabGet] at h
    cases hb : Nat.beq g' g with
    | false => rw [hb] at h; exact List.mem_cons_of_mem _ (tabGet_mem h)
    | true =>
      rw [hb] at h
      simp only [cond_true] at h
      cases hc : eqPVs k' k with
      | false => rw [hc] at h; exact List.mem_cons_of_mem _ (tabGet_mem h)
      | true =>
        rw [hc] at h
        simp only [cond_true, Option.some.injEq] at h
        subst h
        rw [eqPVs_ok hc, Nat.eq_of_beq_eq_true hb]
        exact List.mem_cons_self ..
def TabRun (P : Program) (x : FuncId × List PV × AV) : Prop := plainB x.2.2 = true ∧ PureA P x.1 (ofPVs x.2.1) x.2.2
theorem tab_ok {P : Program} {t : Tab} (h : ∀ x ∈ t, TabRun P x) : PtOk P (tabPt t) := by
  intro g as a hg
  unfold tabPt at hg
  obtain ⟨_, hg2⟩ := bif_some hg
  split at hg2
  case h_2 => cases hg2
  rename_i k hk
  obtain ⟨h1, h2⟩ := h _ (tabGet_mem hg2)
  refine ⟨h1, h2.1, fun w M vs hM hl hvs => ?_⟩
  obtain ⟨h3, h4⟩ := allO_ok hk
  refine h2.2 w M vs hM (by rw [hl, ofPVs_map]; simp [h3]) fun j x v hx hv => ?_
  simp only at hx
  rw [ofPVs_map] at hx
  obtain ⟨p, hp, rfl⟩ := map_get hx
  have hj : j < as.length := by have := (List.getElem?_eq_some_iff.1 hp).1; omega
  exact toPV_ok 8 _ p v (h4 j as[j] p (List.getElem?_eq_getElem hj) hp) (hvs j as[j] v (List.getElem?_eq_getElem hj) hv)
theorem tab_run {P : Program} {cd : CallD} (hcd : CdOk P cd) {g : FuncId} {k : List PV} {a : AV} (h : runP P cd g (ofPVs k) = some a) : TabRun P (g, k, a) := runP_ok hcd h
theorem tab_nil {P : Program} : ∀ x ∈ ([] : Tab), TabRun P x := fun x hx => by simp at hx
theorem tab_cons {P : Program} {x : FuncId × List PV × AV} {t : Tab} (h1 : TabRun P x) (h2 : ∀ x ∈ t, TabRun P x) : ∀ y ∈ x :: t, TabRun P y := fun y hy => by
  rcases List.mem_cons.1 hy with rfl | hy
  · exact h1
  · exact h2 y hy
end Go.E
