/-
  The abstract evaluation: code, calls, loops over functions, contracts in front, and that a run of it is a run of the program.
-/
import Derived.Test.YtlcpcbaedpfemaaGreatDoorEc
set_option linter.unusedVariables false
set_option linter.unusedSimpArgs false
namespace Go.E
open Go.RowKit

/-! ### 25. What the evaluation of such a region is worth -/
def Lex (P : Program) (ops : Array Oper) : List Oper → List Rec → (Nat → Option AV) → Hp → Nat → Prop
  | [], [], _, _, _ => True
  | o :: l, r :: rs, f, H, nx => gval ops o (tmF f) = some r.run ∧ (r.run = false → r.a = .raw undef ∧ r.us = []) ∧ (r.run = true → RecRun P o f H r) ∧ keyR H r ∧ r.lo = nx ∧ r.lo ≤ r.hi ∧
      Lex P ops l rs (putF f o.dst r.a) (appU r.us H) r.hi
  | _, _, _, _, _ => False
def lexE : List Oper → List Rec → (Nat → Option AV) → (Nat → Option AV)
  | o :: l, r :: rs, f => lexE l rs (putF f o.dst r.a)
  | _, _, f => f
def lexH : List Rec → Hp → Hp
  | r :: rs, H => lexH rs (appU r.us H)
  | [], H => H
def lexN : List Rec → Nat → Nat
  | r :: rs, _ => lexN rs r.hi
  | [], n => n

theorem guardR_eq {R : Type} {A : Alg R} {holds : R → Prop} (hA : AlgOk A holds) {ops : Array Oper} {o : Oper} {st : St} {yes no : St → R} (h : holds (guardR A ops o st yes no)) :
    ∃ env', env'.get = st.env.get ∧ ((holds (yes { st with env := env' }) ∧ gval ops o (tmF st.env.get) = some true) ∨ (holds (no { st with env := env' }) ∧ gval ops o (tmF st.env.get) = some false)) := by
  unfold guardR at h
  unfold gval
  split at h
  · rename_i hg
    try simp only [hg]
    exact ⟨st.env, rfl, .inl ⟨h, by trivial⟩⟩
  · rename_i j want hg
    try simp only [hg]
    split at h
    · exact absurd h hA.ff
    · rename_i g hd
      try simp only [hd]
      have htm : tmF st.env.get g = St.tm st.env g := rfl
      rw [htm]
      split at h
      · rename_i b hb
        try simp only [hb]
        have hget : st.env.get g = some (.bool b) := by
          unfold St.tm at hb
          cases hx : st.env.get g with
          | none => rw [hx] at hb; cases hb
          | some a => rw [hx] at hb; simp at hb; rw [hb]
        have same : (st.env.set g (some (.bool b))).get = st.env.get := by
          funext u
          rw [Tr.get_set]
          by_cases e : u = g
          · subst e; rw [if_pos rfl, hget]
          · rw [if_neg e]
        rcases hA.ite _ _ _ h with ⟨rfl, hh⟩ | ⟨rfl, hh⟩
        · refine ⟨_, same, ?_⟩
          cases want with
          | true => exact .inl ⟨hh, rfl⟩
          | false => exact .inr ⟨hh, rfl⟩
        · refine ⟨_, same, ?_⟩
          cases want with
          | true => exact .inr ⟨hh, rfl⟩
          | false => exact .inl ⟨hh, rfl⟩
      · rename_i vs hb
        try simp only [hb]
        exact ⟨st.env, rfl, .inr ⟨h, by trivial⟩⟩
      · exact absurd h hA.ff

theorem regD_lex {R : Type} {A : Alg R} {holds : R → Prop} (hA : AlgOk A holds) {P : Program} {cd : CallD} (hcd : CdOk P cd) {ops : Array Oper} {K : St → R} : ∀ {l : List Oper} {acc : List Rec} {st : St}, holds (regD A P cd ops l acc st K) →
    ∃ rs, rs.length = l.length ∧ Lex P ops l rs st.env.get st.H.get st.nx ∧ dynB ops (fun i => (acc.reverse ++ rs).getD i default) = true ∧
      ∃ st', holds (K st') ∧ st'.env.get = lexE l rs st.env.get ∧ st'.H.get = lexH rs st.H.get ∧ st'.nx = lexN rs st.nx
  | [], acc, st, h => by
    obtain ⟨h1, h2⟩ := hA.req _ _ h
    exact ⟨[], rfl, trivial, by simpa using h1, st, h2, rfl, rfl, rfl⟩
  | o :: l, acc, st, h => by
    unfold regD at h
    obtain ⟨env', he, ⟨h, hg⟩ | ⟨h, hg⟩⟩ := guardR_eq hA h
    · split at h
      · rename_i c r hr
        obtain ⟨h1, h⟩ := hA.req _ _ h
        obtain ⟨q1, q2, q3, q4, q5⟩ := opRec_ok hcd hr h1
        simp only at h q2 q3 q4
        rw [he] at q2
        obtain ⟨rs, p1, p2, p3, st', p4, p5, p6, p7⟩ := regD_lex hA hcd h
        simp only [putE_get, Tr.app_hp] at p2 p5 p6 p7
        rw [he] at p2 p5
        refine ⟨r :: rs, by simp [p1], ⟨by rw [q1]; exact hg, fun e => (by rw [q1] at e; cases e), fun _ => q2, q3, q4, q5, p2⟩, ?_, st', p4, p5, p6, p7⟩
        simpa [List.append_assoc] using p3
      · exact absurd h hA.ff
    · obtain ⟨rs, p1, p2, p3, st', p4, p5, p6, p7⟩ := regD_lex hA hcd h
      simp only [putE_get] at p2 p5
      rw [he] at p2 p5
      refine ⟨⟨false, .raw undef, [], [], st.nx, st.nx⟩ :: rs, by simp [p1], ⟨hg, fun _ => ⟨rfl, rfl⟩, fun e => (by cases e), fun u hu => (by simp at hu), rfl, Nat.le_refl _, p2⟩, ?_, st', p4, p5, p6, p7⟩
      simpa [List.append_assoc] using p3

theorem lex_recs {P : Program} {ops : Array Oper} {rc : Nat → Rec} {f0 : Nat → Option AV} {H0 : Hp} : ∀ {l : List Oper} {rs : List Rec} {k : Nat} {nx : Nat}, rs.length = l.length → (∀ i, l[i]? = ops[k + i]?) → (∀ i r, rs[i]? = some r → rc (k + i) = r) →
    Lex P ops l rs (foldS (stepE ops rc) allT k f0) (foldS (stepH rc) allT k H0) nx →
    (∀ i o, ops[k + i]? = some o → gval ops o (tmF (foldS (stepE ops rc) allT (k + i) f0)) = some (rc (k + i)).run ∧ ((rc (k + i)).run = false → (rc (k + i)).a = .raw undef ∧ (rc (k + i)).us = []) ∧
      ((rc (k + i)).run = true → RecRun P o (foldS (stepE ops rc) allT (k + i) f0) (foldS (stepH rc) allT (k + i) H0) (rc (k + i))) ∧ keyR (foldS (stepH rc) allT (k + i) H0) (rc (k + i)) ∧ nx ≤ (rc (k + i)).lo ∧ (rc (k + i)).lo ≤ (rc (k + i)).hi ∧
      (∀ j q, i < j → ops[k + j]? = some q → (rc (k + i)).hi ≤ (rc (k + j)).lo)) ∧
    lexE l rs (foldS (stepE ops rc) allT k f0) = foldS (stepE ops rc) allT (k + l.length) f0 ∧ lexH rs (foldS (stepH rc) allT k H0) = foldS (stepH rc) allT (k + l.length) H0 ∧
    (∀ i q, ops[k + i]? = some q → (rc (k + i)).hi ≤ lexN rs nx) ∧ nx ≤ lexN rs nx
  | [], [], k, nx, _, hl, _, _ => ⟨fun i o h => by rw [← hl i] at h; simp at h, rfl, rfl, fun i q h => (by rw [← hl i] at h; simp at h), Nat.le_refl _⟩
  | [], _ :: _, _, _, h, _, _, _ => by simp at h
  | _ :: _, [], _, _, h, _, _, _ => by simp at h
  | o :: l, r :: rs, k, nx, hlen, hl, hr, ⟨a1, a2, a3, a4, a5, a6, a7⟩ => by
    have hrk : rc k = r := hr 0 r rfl
    have hok : ops[k]? = some o := by have := hl 0; simpa using this.symm
    have e1 : putF (foldS (stepE ops rc) allT k f0) o.dst r.a = foldS (stepE ops rc) allT (k + 1) f0 := by
      simp only [foldS, allT, cond_true, stepE, hok, Option.bind_some, hrk]
    have e2 : appU r.us (foldS (stepH rc) allT k H0) = foldS (stepH rc) allT (k + 1) H0 := by
      simp only [foldS, allT, cond_true, stepH, hrk]
    rw [e1, e2] at a7
    obtain ⟨b1, b2, b3, b4, b5⟩ := lex_recs (k := k + 1) (by simpa using hlen) (fun i => by have := hl (i + 1); simpa [Nat.add_assoc, Nat.add_comm 1 i] using this) (fun i r hi => by have := hr (i + 1) r (by simpa using hi); simpa [Nat.add_assoc, Nat.add_comm 1 i] using this) a7
    have sh : ∀ i, k + 1 + i = k + (i + 1) := fun i => by omega
    refine ⟨fun i q hq => ?_, ?_, ?_, fun i q hq => ?_, ?_⟩
    · cases i with
      | zero =>
        simp only [Nat.add_zero] at hq ⊢
        rw [hok] at hq
        cases hq
        rw [hrk]
        refine ⟨a1, a2, a3, a4, by omega, a6, fun j q hj hq => ?_⟩
        cases j with
        | zero => omega
        | succ j =>
          have := (b1 j q (by rw [sh]; exact hq)).2.2.2.2.1
          rwa [sh] at this
      | succ i =>
        have := b1 i q (by rw [sh]; exact hq)
        rw [sh] at this
        obtain ⟨c1, c2, c3, c4, c5, c6, c7⟩ := this
        refine ⟨c1, c2, c3, c4, by omega, c6, fun j q hj hq => ?_⟩
        cases j with
        | zero => omega
        | succ j =>
          have := c7 j q (by omega) (by rw [sh]; exact hq)
          rwa [sh] at this
    · simp only [lexE, e1, b2, List.length_cons]; rw [sh]
    · simp only [lexH, e2, b3, List.length_cons]; rw [sh]
    · simp only [lexN]
      cases i with
      | zero => simp only [Nat.add_zero, hrk]; exact b5
      | succ i =>
        have := b4 i q (by rw [sh]; exact hq)
        rwa [sh] at this
    · simp only [lexN]; omega

section
variable {R : Type} {A : Alg R} {holds : R → Prop} (hA : AlgOk A holds) {P : Program} {cd : CallD} (hcd : CdOk P cd)
include hA hcd
theorem regD_ok {ops : Array Oper} {st : St} {K : St → R} (h : holds (regD A P cd ops ops.toList [] st K)) (hst : staticB ops = true) (hmx : P.follows .mixedOrders = true) {X : Fix} (hK : ∀ st, holds (K st) → st.nx ≤ X.lim) :
    st.nx ≤ X.lim ∧ ∀ {id n : Nat} {ds : List Deferred} {D : Nat → Prop} {β : Nat → Nat} {act : Act} {w : World}, Sit P X n ds st D β act w → (∀ o ∈ ops, ∀ t, o.dst = some t → t < n) → ∀ {F : Fence}, Fw F → ∀ {m : Nat} {Q : Exit → Act → World → Prop},
      Goes P holds X n ds st D β w K (Q .normal) → (Code.region id ops true).wpIn F m P Q act w := by
  obtain ⟨rs, p1, p2, p3, st', p4, p5, p6, p7⟩ := regD_lex hA hcd h
  simp only [List.reverse_nil, List.nil_append] at p3
  obtain ⟨rc, hrc⟩ : ∃ rc : Nat → Rec, rc = fun i => rs.getD i default := ⟨_, rfl⟩
  rw [← hrc] at p3
  have hlen : rs.length = ops.size := by simpa using p1
  obtain ⟨b1, b2, b3, b4, b5⟩ := lex_recs (rc := rc) (f0 := st.env.get) (H0 := st.H.get) (k := 0) p1 (fun i => by simp) (fun i r hi => by rw [hrc]; simp [hi]) p2
  simp only [Nat.zero_add, Array.length_toList] at b1 b2 b3 b4
  have hnx : st'.nx ≤ X.lim := hK _ p4
  have hend : ∀ i, i < ops.size → (rc i).hi ≤ st'.nx := fun i hi => by rw [p7]; exact b4 i _ (Array.getElem?_eq_getElem hi)
  refine ⟨by rw [p7] at hnx; omega, ?_⟩
  intro id n ds D β act w hs hd F hF m Q hg
  have hok : RecsOk ops rc P st.env.get st.H.get st.nx := by
    exact ⟨fun i o ho => (b1 i o ho).1, fun i hi => (b1 i _ (Array.getElem?_eq_getElem hi)).2.1, fun i o ho => (b1 i o ho).2.2.1, fun i hi u hu => (b1 i _ (Array.getElem?_eq_getElem hi)).2.2.2.1 u hu, fun i hi => ⟨(b1 i _ (Array.getElem?_eq_getElem hi)).2.2.2.2.1, (b1 i _ (Array.getElem?_eq_getElem hi)).2.2.2.2.2.1⟩,
      fun i j hij hj => (b1 i _ (Array.getElem?_eq_getElem (by omega))).2.2.2.2.2.2 j _ hij (Array.getElem?_eq_getElem hj)⟩
  refine wpIn_drawn hmx fun t => ?_
  have hmid : Mid P X ops rc st.env.get st.H.get D β w n ds (fun i => (Array.replicate ops.size false).getD i true) D β act { w with drawn := w.drawn + 1 } := by
    have hH : hAt ops rc st.H.get (fun i => (Array.replicate ops.size false).getD i true) = st.H.get := by
      have : ∀ n, n ≤ ops.size → foldS (stepH rc) (fun i => (Array.replicate ops.size false).getD i true) n st.H.get = st.H.get := by
        intro n
        induction n with
        | zero => intro _; rfl
        | succ n ih =>
          intro hn
          simp only [foldS]
          rw [show (Array.replicate ops.size false).getD n true = false by simp [Array.getD]; omega]
          exact ih (by omega)
      exact this _ (Nat.le_refl _)
    have hE : eAt ops rc st.env.get (fun i => (Array.replicate ops.size false).getD i true) = st.env.get := by
      have : ∀ n, n ≤ ops.size → foldS (stepE ops rc) (fun i => (Array.replicate ops.size false).getD i true) n st.env.get = st.env.get := by
        intro n
        induction n with
        | zero => intro _; rfl
        | succ n ih =>
          intro hn
          simp only [foldS]
          rw [show (Array.replicate ops.size false).getD n true = false by simp [Array.getD]; omega]
          exact ih (by omega)
      exact this _ (Nat.le_refl _)
    have hl : ({ w with drawn := w.drawn + 1 } : World).heap = w.heap := rfl
    refine ⟨by rw [hH]; exact hs.mem.hp.heap hl, fun t a ht => ?_, hs.size, hs.defers, fun j hj => .inl hj, by rw [hH]; exact le_heap hl β X.N _ X.B D, ⟨rfl, rfl, rfl, Nat.le_refl _, fun _ _ _ => rfl⟩, fun k b hk => by rw [hH]; exact (hs.mem.apart k b hk).1, fun j o hj hS => ?_⟩
    · rw [hE] at ht
      rw [hH]
      exact ⟨(hs.tmps t a ht).1, (hs.tmps t a ht).2.mono (le_heap hl β X.N _ X.B D)⟩
    · have := (Array.getElem?_eq_some_iff.1 hj).1
      simp [Array.getD, this] at hS
  refine mid_run hst p3 hok (fun j h1 ⟨i, hi, hj⟩ => hs.mem.fresh j h1 (by have := hend i hi; omega)) (fun k b hk i hi h3 => (hs.mem.apart k b hk).2 ⟨by have := (hok.rng i hi).1; omega, by have := hend i hi; omega⟩) hs.mem.size hs.mem.low hd hF
    (fun D' β' act' w' hm' => ?_) ops.size t _ (by simp) (by
      have := List.countP_le_length (p := fun i => !(Array.replicate ops.size false).getD i true) (l := List.range ops.size)
      simpa using this) D β act _ hmid
  have fH : hAt ops rc st.H.get allT = st'.H.get := by rw [p6]; exact b3.symm
  have fE : eAt ops rc st.env.get allT = st'.env.get := by rw [p5]; exact b2.symm
  refine hg st' D' β' act' w' p4 ⟨⟨?_, fun j h1 h2 hD => ?_, ?_, hs.mem.low, fun k b hk => ?_⟩, ?_, hm'.size, hm'.defers⟩ ⟨?_, hm'.fr, fun j hj => ?_, by rw [p7]; exact b5⟩
  · rw [← fH]; exact hm'.hp
  · rcases hm'.dn j hD with h | ⟨i, hi, _, h3, h4⟩
    · exact hs.mem.fresh j (by rw [p7] at h1; omega) h2 h
    · have := hend i hi; omega
  · exact Nat.le_trans hs.mem.size hm'.fr.size
  · have := (hs.mem.apart k b hk).2
    exact ⟨by rw [← fH]; exact hm'.apart k b hk, fun h => this ⟨by rw [p7] at h; omega, h.2⟩⟩
  · intro t a ht
    rw [← fE] at ht
    rw [← fH]
    exact hm'.tm t a ht
  · rw [← fH]; exact hm'.le
  · rcases hm'.dn j hj with h | ⟨i, hi, _, h3, h4⟩
    · exact .inl h
    · have h5 := hend i hi
      have h6 := (hok.rng i hi).1
      exact .inr ⟨by omega, by omega⟩
end

/-! ### 26. Blocks that are no cells -/
theorem le_rem (w : World) (β : Nat → Nat) (N : Nat → Prop) (H G : Hp) (B : Nat) (D : Nat → Prop) (i : Nat) (hG : ∀ b, G i = some b → H i = none) : (En.mk' w β N (ov H G) B D).le (En.mk' w β N (ov (upd H i none) G) B D) := by
  refine le_sub fun j b hj => ?_
  by_cases e : j = i
  · subst e
    simp only [ov, upd_same] at hj
    simp only [ov, hG b hj, hj]
  · simp only [ov] at hj ⊢
    rw [upd_ne _ _ e] at hj
    exact hj

/-- A block is let go. -/
theorem Mem.rem {P : Program} {X : Fix} {D : Nat → Prop} {β : Nat → Nat} {H : Tr Blk} {nx : Nat} {w : World} (h : Mem P X D β H nx w) (i : Nat) :
    Mem P X D β (H.set i none) nx w ∧ Pg X.N X.B D β (ov H.get X.G) w nx D β (ov (H.set i none).get X.G) w nx := by
  have hG : ∀ b, X.G i = some b → H.get i = none := fun b hb => (h.apart i b hb).1
  have hsub : Sub (ov (upd H.get i none) X.G) (ov H.get X.G) := fun j b hj => by
    by_cases e : j = i
    · subst e
      simp only [ov, upd_same] at hj
      simp only [ov, hG b hj, hj]
    · simp only [ov] at hj ⊢
      rw [upd_ne _ _ e] at hj
      exact hj
  refine ⟨⟨?_, h.fresh, h.size, h.low, fun k b hk => ?_⟩, ⟨?_, .refl _ _ _, fun _ hj => .inl hj, Nat.le_refl _⟩⟩
  · rw [Tr.set_hp]; exact h.hp.sub hsub
  · refine ⟨?_, (h.apart k b hk).2⟩
    rw [Tr.get_set]
    split
    · rfl
    · exact (h.apart k b hk).1
  · rw [Tr.set_hp]; exact le_rem w β X.N H.get X.G X.B D i hG

/-- A block that is no cells is written. -/
theorem Mem.put {P : Program} {X : Fix} {D : Nat → Prop} {β : Nat → Nat} {H : Tr Blk} {nx : Nat} {w : World} (h : Mem P X D β H nx w) {i : Nat} {b b' : Blk} (hi : H.get i = some b) {o o' : Obj} (ho : w.heap[β i]? = some o)
    (hnc : ∀ cs t fz, o ≠ .cells cs t fz) (hb : ∀ E' : En, (X.en D β H.get w).le E' → E'.w = w.putObj (β i) o' → E'.w.heap[β i]? = some o' → BlkOk P E' (β i) b') :
    Mem P X D β (H.set i (some b')) nx (w.putObj (β i) o') ∧ Pg X.N X.B D β (ov H.get X.G) w nx D β (ov (H.set i (some b')).get X.G) (w.putObj (β i) o') nx := by
  have hGi : X.G i = none := by
    cases hg : X.G i with
    | none => rfl
    | some c => have := (h.apart i c hg).1; rw [hi] at this; cases this
  have hov : ov (H.set i (some b')).get X.G = upd (ov H.get X.G) i (some b') := by rw [Tr.set_hp, ov_upd hGi]
  have hi' : ov H.get X.G i = some b := by simp [ov, hi]
  have hlt : β i < w.heap.size := lt_of_heap ho
  have hsame : (w.putObj (β i) o').heap[β i]? = some o' := World.putObj_heap_same hlt
  have hoth : ∀ k, k ≠ β i → (w.putObj (β i) o').heap[k]? = w.heap[k]? := fun k hk => World.putObj_heap_other hk
  have hle : (X.en D β H.get w).le (X.en D β (H.set i (some b')).get (w.putObj (β i) o')) := by
    show (En.mk' w β X.N (ov H.get X.G) X.B D).le (En.mk' _ β X.N (ov (H.set i (some b')).get X.G) X.B D)
    rw [hov]
    refine ⟨fun g c hM hg => ?_, fun g _ hM => ?_, fun _ _ => rfl, fun _ h => h, Nat.le_refl _, fun g cs t hg => ?_, by simp⟩
    · exact (hoth g (fun e => hM (.inr ⟨i, b, hi', e.symm⟩))).trans hg
    · rcases hM with hM | ⟨j, c, hj, he⟩
      · exact .inl hM
      · by_cases hji : j = i
        · subst hji; exact .inr ⟨j, b, hi', he⟩
        · rw [upd_ne _ _ hji] at hj
          exact .inr ⟨j, c, hj, he⟩
    · by_cases e : g = β i
      · subst e
        simp only [En.mk'_w] at hg
        rw [ho] at hg
        cases hg
        exact absurd rfl (hnc cs t (0, 0))
      · exact ⟨cs, (hoth g e).trans hg, rfl⟩
  refine ⟨⟨?_, h.fresh, by simpa using h.size, h.low, fun k c hk => ?_⟩, ⟨hle, ⟨rfl, rfl, rfl, by simp, fun k _ hno => hoth k (fun e => hno i b hi' e.symm)⟩, fun _ hj => .inl hj, Nat.le_refl _⟩⟩
  · have hbb := hb _ hle rfl hsame
    revert hle hbb
    show (En.mk' w β X.N (ov H.get X.G) X.B D).le (En.mk' _ β X.N (ov (H.set i (some b')).get X.G) X.B D) → BlkOk P (En.mk' _ β X.N (ov (H.set i (some b')).get X.G) X.B D) (β i) b' → HpOk P (En.mk' _ β X.N (ov (H.set i (some b')).get X.G) X.B D) (ov (H.set i (some b')).get X.G)
    rw [hov]
    intro hle hbb
    refine ⟨fun j c hj => ?_, fun j k c d hj hk he => ?_⟩
    · by_cases hji : j = i
      · subst hji
        rw [upd_same] at hj
        cases hj
        obtain ⟨q1, q2, q3, q4⟩ := h.hp.blk j b hi'
        exact ⟨q1, .inr ⟨j, _, upd_same _ _ _, rfl⟩, q3, hbb⟩
      · rw [upd_ne _ _ hji] at hj
        obtain ⟨q1, q2, q3, q4⟩ := h.hp.blk j c hj
        exact ⟨q1, .inr ⟨j, c, by rw [upd_ne _ _ hji]; exact hj, rfl⟩, q3, q4.mono hle (hoth _ (fun e => hji (h.hp.inj j i c b hj hi' e)))⟩
    · have fix : ∀ j c, upd (ov H.get X.G) i (some b') j = some c → ∃ c', ov H.get X.G j = some c' := fun j c hj => by
        by_cases hji : j = i
        · subst hji; exact ⟨b, hi'⟩
        · rw [upd_ne _ _ hji] at hj; exact ⟨c, hj⟩
      obtain ⟨c', hc⟩ := fix j c hj
      obtain ⟨d', hd⟩ := fix k d hk
      exact h.hp.inj j k c' d' hc hd he
  · refine ⟨?_, (h.apart k c hk).2⟩
    rw [Tr.get_set, if_neg (fun e => by rw [e, hGi] at hk; cases hk)]
    exact (h.apart k c hk).1

/-- New blocks, of whatever kind: at most four. -/
theorem Mem.news {P : Program} {X : Fix} {D : Nat → Prop} {β : Nat → Nat} {H : Tr Blk} {nx : Nat} {w w' : World} (h : Mem P X D β H nx w) (hl : nx + 4 ≤ X.lim) {bs : List Blk} (hlen : bs.length ≤ 4)
    (h1 : ∀ k, k < w.heap.size → w'.heap[k]? = w.heap[k]?) (hs : w.heap.size ≤ w'.heap.size) (h3 : w'.os = w.os ∧ w'.tape = w.tape ∧ w'.output = w.output) {H' : Tr Blk} (hH : ∀ k, H'.get k = addB H.get nx bs k)
    (hb : ∀ E' : En, (X.en D β H.get w).le E' → E'.w = w' → (∀ j, j < bs.length → E'.β (nx + j) = w.heap.size + j ∧ E'.D (nx + j)) → ∀ j b, bs[j]? = some b → BlkOk P E' (w.heap.size + j) b) :
    ∃ β', Mem P X (Dn D nx) β' H' (nx + 4) w' ∧ Pg X.N X.B D β (ov H.get X.G) w nx (Dn D nx) β' (ov H'.get X.G) w' (nx + 4) ∧ ∀ j, j < bs.length → β' (nx + j) = w.heap.size + j ∧ Dn D nx (nx + j) := by
  have hid : ∀ j, nx ≤ j → j < nx + 4 → ¬ D j := fun j h1 h2 => h.fresh j h1 (by omega)
  have hov : ov H'.get X.G = addB (ov H.get X.G) nx bs := by
    funext k
    simp only [ov, hH]
    by_cases hk : nx ≤ k ∧ k < nx + bs.length
    · rw [addB_in _ hk.1 hk.2, addB_in _ hk.1 hk.2]
      have : k - nx < bs.length := by omega
      simp [this]
    · rw [addB_out _ hk, addB_out _ hk]; rfl
  have hle := news_le (w := w) (w' := w') (N := X.N) (B := X.B) (H := ov H.get X.G) (β := β) (D := D) (id := nx) (bs := bs) (γ := fun j => w.heap.size + j) hlen hid (fun j _ => by omega) h1 hs
  have hnew : ∀ j, j < bs.length → addβ β nx bs.length (fun j => w.heap.size + j) (nx + j) = w.heap.size + j ∧ Dn D nx (nx + j) := fun j hj => by
    refine ⟨?_, .inr ⟨by omega, by omega⟩⟩
    unfold addβ
    rw [if_pos (by omega)]
    congr 1
    omega
  have hp := news_hp (w := w) (w' := w') (N := X.N) (B := X.B) (H := ov H.get X.G) (β := β) (D := D) (id := nx) (bs := bs) (γ := fun j => w.heap.size + j) hlen hid h.hp h.size (fun j _ => by omega) (fun i j _ _ e => by omega) h1 hs h3
    (fun j b hj => hb _ hle rfl hnew j b hj)
  rw [← hov] at hle hp
  refine ⟨_, ⟨hp, fun j h1 h2 => ?_, Nat.le_trans h.size hs, h.low, fun k b hk => ?_⟩, ⟨hle, ⟨h3.1, h3.2.1, h3.2.2, hs, fun k hk _ => h1 k hk⟩, fun j hj => hj, by omega⟩, hnew⟩
  · rintro (h4 | h4)
    · exact h.fresh j (by omega) h2 h4
    · omega
  · obtain ⟨h4, h5⟩ := h.apart k b hk
    refine ⟨?_, fun h6 => h5 ⟨by omega, h6.2⟩⟩
    rw [hH, addB_out]
    · exact h4
    · exact fun h6 => h5 ⟨h6.1, by omega⟩

/-! ### 27. Code, evaluated -/
inductive Ex where
  | norm
  | exit (id : Nat)
  | goto (l : Nat)
  | ret
def Ex.to : Ex → Exit
  | .norm => .normal
  | .exit id => .exit id
  | .goto l => .goto l
  | .ret => .ret
def dstB (n : Nat) (ops : Array Oper) : Bool := ops.all fun o => match o.dst with
  | some t => Nat.blt t n
  | none => true
theorem dstB_ok {n : Nat} {ops : Array Oper} (h : dstB n ops = true) : ∀ o ∈ ops, ∀ t, o.dst = some t → t < n := fun o ho t ht => by
  have := Array.all_eq_true_iff_forall_mem.1 h o ho
  simp only [ht] at this
  simpa [Nat.blt_eq] using this
def notBusy : LoopState → Bool
  | .busy => false
  | _ => true

/-- A piece of a scope's code, with the scope around it. -/
def scopedIn (F : Fence) (n : Nat) (P : Program) (c d : Code) (Q : Exit → Act → World → Prop) (a : Act) (w : World) : Prop :=
  ∀ (b : Frame) (k : List Item) (cs : List Frame), b.roundOf = F.round → F.fn b.fn → F.room (cs.length + 1 + n) →
    ∃ e a' w', Q e a' w' ∧ ArrivesIn (Machine.fenced P F) P (lone (b.atR a (.code d :: .inScope c :: k)) cs w) b k cs e a' w'
/-- What follows a piece of a scope's code: a jump to a label of the scope goes on there. -/
def scopeQ (F : Fence) (n : Nat) (P : Program) (c : Code) (Q : Exit → Act → World → Prop) : Exit → Act → World → Prop
  | .goto l, a, w => (∃ d, findLabel c l = some d ∧ scopedIn F n P c d Q a w) ∨ (findLabel c l = none ∧ Q (.goto l) a w)
  | e, a, w => Q e a w
theorem scopedIn_of {F : Fence} {n : Nat} {P : Program} {Q : Exit → Act → World → Prop} {a : Act} {w : World} {c d : Code} (h : d.wpIn F n P (scopeQ F n P c Q) a w) : scopedIn F n P c d Q a w := by
  intro b k cs hro hb hr
  obtain ⟨e, a₁, w₁, hq, harr⟩ := h b (.inScope c :: k) cs hro hb hr
  have s2 : step P (lone (b.atR a₁ (.inScope c :: k)) cs w₁) = .next (lone (b.atR a₁ k) cs w₁) := step_lone_go (by simp [stepG, stepG.exec, Frame.atR])
  cases e with
  | normal => exact ⟨.normal, a₁, w₁, hq, StepsIn.trans harr (.one (fenced_calm hb hr rfl) s2)⟩
  | exit id =>
    have he : exitTo id (.inScope c :: k) = exitTo id k := by simp [exitTo]
    exact ⟨.exit id, a₁, w₁, hq, fun k' hk => harr.1 k' (by rw [he]; exact hk), fun hr' hk => harr.2 hr' (by rw [he]; exact hk)⟩
  | goto l =>
    rcases hq with ⟨d', hd, hq⟩ | ⟨hd, hq⟩
    · obtain ⟨e, a₂, w₂, hq2, harr2⟩ := hq b k cs hro hb hr
      exact ⟨e, a₂, w₂, hq2, .of_steps (harr.1 _ (by simp [gotoIn, hd])) harr2⟩
    · have he : gotoIn l (.inScope c :: k) = gotoIn l k := by simp [gotoIn, hd]
      exact ⟨.goto l, a₁, w₁, hq, fun k' hk => harr.1 k' (by rw [he]; exact hk), fun hr' hk => harr.2 hr' (by rw [he]; exact hk)⟩
  | ret => exact ⟨.ret, a₁, w₁, hq, harr⟩
  | panic ch => exact ⟨_, a₁, w₁, hq, harr⟩
  | outgrown => exact ⟨_, a₁, w₁, hq, harr⟩
theorem wpIn_scopeE {F : Fence} {n : Nat} {P : Program} {Q : Exit → Act → World → Prop} {a : Act} {w : World} {c : Code} (h : scopedIn F n P c c Q a w) : (Code.scope c).wpIn F n P Q a w := by
  intro b k cs hro hb hr
  have s1 : step P (lone (b.atR a (.code (.scope c) :: k)) cs w) = .next (lone (b.atR a (.code c :: .inScope c :: k)) cs w) := step_lone_go (by simp [stepG, stepG.exec, Frame.atR])
  have h0 : (lone (b.atR a (.code (.scope c) :: k)) cs w).fenced P F := fenced_calm hb hr rfl
  obtain ⟨e, a₁, w₁, hq, harr⟩ := h b k cs hro hb hr
  exact ⟨e, a₁, w₁, hq, .of_steps (.one h0 s1) harr⟩
/-- Where in its text a piece of code is begun: at its head, or behind a label. -/
def startAt (c : Code) : Option Nat → Option Code
  | none => some c
  | some l => findLabel c l
def startsIn (a : Code) : Option Nat → Bool
  | none => true
  | some l => (findLabel a l).isSome

abbrev CodeK (R : Type) := Ex → List Nat → St → R
section
variable {R : Type} (A : Alg R) (P : Program) (cl : CallE R) (cd : CallD) (inr : Bool) (n m : Nat)
def iterR (f : List Nat → St → CodeK R → R) : Nat → List Nat → St → CodeK R → R
  | 0, _, _, _ => A.ff
  | m + 1, df, st, K => f df st fun e df st => match e with
    | .norm => iterR f m df st K
    | e => K e df st
def scopeR (f : Option Nat → List Nat → St → CodeK R → R) (has : Nat → Bool) : Nat → Option Nat → List Nat → St → CodeK R → R
  | 0, _, _, _, _ => A.ff
  | m + 1, s, df, st, K => f s df st fun e df st => match e with
    | .goto l => bif has l then scopeR f has m (some l) df st K else K (.goto l) df st
    | e => K e df st
def jumpR (p : Option Code) (k : Ex → R) : R := match p with
  | none => k .norm
  | some .ret => k .ret
  | some (.exit i) => k (.exit i)
  | some (.goto i) => k (.goto i)
  | _ => A.ff
def codeR : Code → Option Nat → List Nat → St → CodeK R → R
  | .skip, none, df, st, K => K .norm df st
  | .label _, _, df, st, K => K .norm df st
  | .exit id, none, df, st, K => K (.exit id) df st
  | .goto l, none, df, st, K => K (.goto l) df st
  | .ret, none, df, st, K => K .ret df st
  | .region _ ops draw, none, df, st, K => A.req (dstB n ops) fun _ => bif draw then A.req (staticB ops) fun _ => regD A P cd ops ops.toList [] st fun st => K .norm df st
      else regS A P cl ops ops.toList st fun st => K .norm df st
  | .seq a b, s, df, st, K => bif startsIn a s then codeR a s df st (fun e df st => match e with
    | .norm => codeR b none df st K
    | e => K e df st) else codeR b s df st K
  | .cond c a b, none, df, st, K => match St.τ st.env c with
    | .bool t => A.ite t (fun _ => codeR a none df st K) fun _ => codeR b none df st K
    | _ => A.ff
  | .block id c, none, df, st, K => codeR c none df st fun e df st => match e with
    | .exit i => if i = id then K .norm df st else K (.exit i) df st
    | e => K e df st
  | .loop c, none, df, st, K => iterR A (codeR c none) m df st K
  | .scope c, none, df, st, K => scopeR A (codeR c) (fun l => (findLabel c l).isSome) m none df st K
  | .rangeFunc g ps assign body, none, df, st, K => bif inr then A.ff else match St.τ st.env g with
    | .fn (.func f) first cap => A.req (callB P f) fun _ => (cl (.fn (.func f) first cap) [.yld (st.nx + 1)] ((st.H.set st.nx (some .dfr)).set (st.nx + 1) (some (.loop .ready none n st.env ps assign body st.nx))) (st.nx + 4) fun _ H nx =>
        match H.get (st.nx + 1) with
        | some (.loop s p _ _ _ _ _ _) => A.req (notBusy s) fun _ => jumpR A p fun e => K e (st.nx :: df) ⟨st.env, H.set (st.nx + 1) none, nx⟩
        | _ => A.ff)
    | _ => A.ff
  | _, _, _, _, _ => A.ff
end

def marks (β : Nat → Nat) (df : List Nat) : List Deferred := df.map fun id => { target := .collected (β id), args := #[] }
structure Sic (P : Program) (X : Fix) (n : Nat) (df : List Nat) (st : St) (D : Nat → Prop) (β : Nat → Nat) (act : Act) (w : World) : Prop where
  sit : Sit P X n (marks β df) st D β act w
  dd : ∀ id ∈ df, D id
theorem marks_keep {β β' : Nat → Nat} {D : Nat → Prop} {df : List Nat} (h : ∀ i, D i → β' i = β i) (hd : ∀ id ∈ df, D id) : marks β' df = marks β df := by
  unfold marks
  refine List.map_congr_left fun id hid => ?_
  rw [h id (hd id hid)]
theorem Sic.keep {P : Program} {X : Fix} {n : Nat} {df : List Nat} {st st' : St} {D D' : Nat → Prop} {β β' : Nat → Nat} {act act' : Act} {w w' : World} {H : Tr Blk} (h : Sic P X n df st D β act w) (hs : Sit P X n (marks β df) st' D' β' act' w')
    (hp : Pg X.N X.B D β (ov st.H.get X.G) w st.nx D' β' (ov st'.H.get X.G) w' st'.nx) : Sic P X n df st' D' β' act' w' :=
  ⟨⟨hs.mem, hs.tmps, hs.size, by rw [show marks β' df = marks β df from marks_keep (fun i hi => hp.le.bet i hi) h.dd]; exact hs.defers⟩, fun id hid => hp.le.dom id (h.dd id hid)⟩
def GoesC (P : Program) {R : Type} (holds : R → Prop) (X : Fix) (n : Nat) (st : St) (D : Nat → Prop) (β : Nat → Nat) (w : World) (K : CodeK R) (Q : Exit → Act → World → Prop) : Prop :=
  ∀ e df' st' D' β' act' w', holds (K e df' st') → Sic P X n df' st' D' β' act' w' → Pg X.N X.B D β (ov st.H.get X.G) w st.nx D' β' (ov st'.H.get X.G) w' st'.nx → Q e.to act' w'
theorem Mem.congr {P : Program} {X : Fix} {D : Nat → Prop} {β : Nat → Nat} {H H' : Tr Blk} {nx : Nat} {w : World} (h : Mem P X D β H nx w) (e : H'.get = H.get) : Mem P X D β H' nx w := by
  obtain ⟨h1, h2, h3, h4, h5⟩ := h
  exact ⟨by rw [e]; exact h1, h2, h3, h4, by rw [e]; exact h5⟩

/-- What a piece of code evaluated is worth. -/
def CodeOk (P : Program) {R : Type} (holds : R → Prop) (inr : Bool) (n : Nat) (f : List Nat → St → CodeK R → R) (c : Code) : Prop :=
  ∀ df st K, holds (f df st K) → ∀ X : Fix, (∀ e df st, holds (K e df st) → st.nx ≤ X.lim) → st.nx ≤ X.lim ∧
    ∀ D β act w, Sic P X n df st D β act w → ∀ F : Fence, Fw F → (inr = false → F.round = none) → ∀ (mm : Nat) (Q : Exit → Act → World → Prop), GoesC P holds X n st D β w K Q → c.wpIn F mm P Q act w

section
variable {R : Type} {A : Alg R} {holds : R → Prop} (hA : AlgOk A holds) {P : Program} {cl : CallE R} (hcl : ClOk P holds cl) {cd : CallD} (hcd : CdOk P cd) (hmx : P.follows .mixedOrders = true) {inr : Bool} {n m : Nat}

theorem GoesC.here {X : Fix} {df : List Nat} {st : St} {D : Nat → Prop} {β : Nat → Nat} {act : Act} {w : World} {K : CodeK R} {Q : Exit → Act → World → Prop} (hg : GoesC P holds X n st D β w K Q) (hs : Sic P X n df st D β act w) {e : Ex} (h : holds (K e df st)) : Q e.to act w :=
  hg e df st D β act w h hs (.refl _ _ _ _ _ _ _)
theorem GoesC.next {X : Fix} {df : List Nat} {st st' : St} {D D' : Nat → Prop} {β β' : Nat → Nat} {act' : Act} {w w' : World} {K : CodeK R} {Q : Exit → Act → World → Prop} (hg : GoesC P holds X n st D β w K Q) (hs : Sic P X n df st' D' β' act' w')
    (hp : Pg X.N X.B D β (ov st.H.get X.G) w st.nx D' β' (ov st'.H.get X.G) w' st'.nx) : GoesC P holds X n st' D' β' w' K Q :=
  fun e df2 st2 D2 β2 act2 w2 hh hs2 hp2 => hg e df2 st2 D2 β2 act2 w2 hh hs2 (hp.trans hs.sit.mem.hp hs.sit.mem.low hp2)

include hA
theorem iterR_ok {f : List Nat → St → CodeK R → R} {c : Code} (hf : CodeOk P holds inr n f c) : ∀ m, CodeOk P holds inr n (iterR A f m) (.loop c) := by
  intro m df st K h X hK
  have key : ∀ m df st, holds (iterR A f m df st K) → st.nx ≤ X.lim ∧ ∀ D β act w, Sic P X n df st D β act w → ∀ F : Fence, Fw F → (inr = false → F.round = none) → ∀ (mm : Nat) (Q : Exit → Act → World → Prop), GoesC P holds X n st D β w K Q → Code.roundsIn F mm P c Q m act w := by
    intro m
    induction m with
    | zero => intro df st h; exact absurd h hA.ff
    | succ m ih =>
      intro df st h
      obtain ⟨h1, h2⟩ := hf _ _ _ h X (fun e df st hh => by
        cases e with
        | norm => exact (ih df st hh).1
        | _ => exact hK _ _ _ hh)
      refine ⟨h1, fun D β act w hs F hF hro mm Q hg => ?_⟩
      rw [roundsIn_succ]
      refine h2 D β act w hs F hF hro mm _ fun e df' st' D' β' act' w' hh hs' hp => ?_
      cases e with
      | norm => exact (ih df' st' hh).2 D' β' act' w' hs' F hF hro mm Q (hg.next hs' hp)
      | exit i => exact hg _ df' st' D' β' act' w' hh hs' hp
      | goto l => exact hg _ df' st' D' β' act' w' hh hs' hp
      | ret => exact hg _ df' st' D' β' act' w' hh hs' hp
  obtain ⟨h1, h2⟩ := key m df st h
  exact ⟨h1, fun D β act w hs F hF hro mm Q hg => wpIn_loop_rounds m (h2 D β act w hs F hF hro mm Q hg)⟩

theorem scopeR_ok {f : Option Nat → List Nat → St → CodeK R → R} {c : Code} (hf : ∀ s d, startAt c s = some d → CodeOk P holds inr n (f s) d) (m : Nat) : CodeOk P holds inr n (scopeR A f (fun l => (findLabel c l).isSome) m none) (.scope c) := by
  intro df st K h X hK
  have key : ∀ m s d df st, startAt c s = some d → holds (scopeR A f (fun l => (findLabel c l).isSome) m s df st K) → st.nx ≤ X.lim ∧ ∀ D β act w, Sic P X n df st D β act w → ∀ F : Fence, Fw F → (inr = false → F.round = none) → ∀ (mm : Nat) (Q : Exit → Act → World → Prop), GoesC P holds X n st D β w K Q → scopedIn F mm P c d Q act w := by
    intro m
    induction m with
    | zero => intro s d df st _ h; exact absurd h hA.ff
    | succ m ih =>
      intro s d df st hd h
      obtain ⟨h1, h2⟩ := hf s d hd _ _ _ h X (fun e df st hh => by
        cases e with
        | goto l =>
          simp only at hh
          cases hl : findLabel c l with
          | none => rw [hl] at hh; exact hK _ _ _ hh
          | some d' => rw [hl] at hh; exact (ih (some l) d' df st hl hh).1
        | _ => exact hK _ _ _ hh)
      refine ⟨h1, fun D β act w hs F hF hro mm Q hg => scopedIn_of (h2 D β act w hs F hF hro mm _ fun e df' st' D' β' act' w' hh hs' hp => ?_)⟩
      cases e with
      | norm => exact hg _ df' st' D' β' act' w' hh hs' hp
      | exit i => exact hg _ df' st' D' β' act' w' hh hs' hp
      | ret => exact hg _ df' st' D' β' act' w' hh hs' hp
      | goto l =>
        simp only at hh
        cases hl : findLabel c l with
        | none => rw [hl] at hh; exact .inr ⟨hl, hg (.goto l) df' st' D' β' act' w' hh hs' hp⟩
        | some d' =>
          rw [hl] at hh
          exact .inl ⟨d', hl, (ih (some l) d' df' st' hl hh).2 D' β' act' w' hs' F hF hro mm Q (hg.next hs' hp)⟩
  obtain ⟨h1, h2⟩ := key m none c df st rfl h
  exact ⟨h1, fun D β act w hs F hF hro mm Q hg => wpIn_scopeE (h2 D β act w hs F hF hro mm Q hg)⟩

include hcl hcd hmx
set_option maxHeartbeats 400000 in
theorem codeR_ok : ∀ (c : Code) (s : Option Nat) (d : Code), startAt c s = some d → CodeOk P holds inr n (codeR A P cl cd inr n m c s) d := by
  intro c
  induction c with
  | skip =>
    intro s d hd
    cases s with
    | some l => cases hd
    | none => cases hd; exact fun df st K h X hK => ⟨hK _ _ _ h, fun D β act w hs F hF hro mm Q hg => wpIn_skip (hg.here hs h)⟩
  | label l =>
    intro s d hd
    cases s with
    | some l' =>
      simp only [startAt, findLabel] at hd
      split at hd
      · cases hd; exact fun df st K h X hK => ⟨hK _ _ _ h, fun D β act w hs F hF hro mm Q hg => wpIn_skip (hg.here hs h)⟩
      · cases hd
    | none => cases hd; exact fun df st K h X hK => ⟨hK _ _ _ h, fun D β act w hs F hF hro mm Q hg => wpIn_label (hg.here hs h)⟩
  | exit id =>
    intro s d hd
    cases s with
    | some l => cases hd
    | none => cases hd; exact fun df st K h X hK => ⟨hK _ _ _ h, fun D β act w hs F hF hro mm Q hg => wpIn_exit (hg.here hs h)⟩
  | ret =>
    intro s d hd
    cases s with
    | some l => cases hd
    | none => cases hd; exact fun df st K h X hK => ⟨hK _ _ _ h, fun D β act w hs F hF hro mm Q hg => wpIn_ret (hg.here hs h)⟩
  | goto l =>
    intro s d hd
    cases s with
    | some l => cases hd
    | none => cases hd; exact fun df st K h X hK => ⟨hK _ _ _ h, fun D β act w hs F hF hro mm Q hg => wpIn_goto (hg.here hs h)⟩
  | refuse s =>
    intro s d hd
    cases s with
    | some l => cases hd
    | none => cases hd; exact fun df st K h X hK => absurd h hA.ff
  | scope c ih =>
    intro s d hd
    cases s with
    | some l => cases hd
    | none => cases hd; exact scopeR_ok hA ih m
  | region id ops draw =>
    intro s d hd
    cases s with
    | some l => cases hd
    | none =>
    cases hd
    intro df st K h X hK
    simp only [codeR] at h
    obtain ⟨h1, h⟩ := hA.req _ _ h
    have hd := dstB_ok h1
    cases draw with
    | true =>
      simp only [cond_true] at h
      obtain ⟨h2, h⟩ := hA.req _ _ h
      obtain ⟨q1, q2⟩ := regD_ok hA hcd h h2 hmx (X := X) (fun st hh => hK _ _ _ hh)
      exact ⟨q1, fun D β act w hs F hF hro mm Q hg => q2 hs.sit hd hF fun st' D' β' act' w' hh hs' hp => hg .norm df st' D' β' act' w' hh (hs.keep (H := st.H) hs' hp) hp⟩
    | false =>
      simp only [cond_false] at h
      refine ⟨regS_lim hA hcl h fun st hh => hK _ _ _ hh, fun D β act w hs F hF hro mm Q hg => wpIn_region_list ?_⟩
      exact regS_ok hA hcl hF h (fun st hh => hK _ _ _ hh) (fun o ho => hd o (by simpa using ho)) hs.sit fun st' D' β' act' w' hh hs' hp => hg .norm df st' D' β' act' w' hh (hs.keep (H := st.H) hs' hp) hp
  | seq a b iha ihb =>
    intro s d hd df st K h X hK
    simp only [codeR] at h
    cases hst : startsIn a s with
    | false =>
      rw [hst] at h
      have hb : startAt b s = some d := by
        cases s with
        | none => cases hst
        | some l =>
          simp only [startsIn, Option.isSome_eq_false_iff, Option.isNone_iff_eq_none] at hst
          simpa only [startAt, findLabel, hst] using hd
      exact ihb s d hb _ _ _ h X hK
    | true =>
      rw [hst] at h
      simp only [cond_true] at h
      obtain ⟨ra, hra, rfl⟩ : ∃ ra, startAt a s = some ra ∧ d = .seq ra b := by
        cases s with
        | none => cases hd; exact ⟨a, rfl, rfl⟩
        | some l =>
          obtain ⟨ra, hra⟩ := Option.isSome_iff_exists.1 (show (findLabel a l).isSome = true from hst)
          simp only [startAt, findLabel, hra, Option.some.injEq] at hd
          exact ⟨ra, hra, hd.symm⟩
      obtain ⟨h1, h2⟩ := iha s ra hra _ _ _ h X (fun e df st hh => by
        cases e with
        | norm => exact (ihb none b rfl _ _ _ hh X hK).1
        | _ => exact hK _ _ _ hh)
      refine ⟨h1, fun D β act w hs F hF hro mm Q hg => wpIn_seq (h2 D β act w hs F hF hro mm _ fun e df' st' D' β' act' w' hh hs' hp => ?_)⟩
      cases e with
      | norm => exact (ihb none b rfl _ _ _ hh X hK).2 D' β' act' w' hs' F hF hro mm Q (hg.next hs' hp)
      | exit i => exact hg _ df' st' D' β' act' w' hh hs' hp
      | goto l => exact hg _ df' st' D' β' act' w' hh hs' hp
      | ret => exact hg _ df' st' D' β' act' w' hh hs' hp
  | cond c a b iha ihb =>
    intro s d hd
    cases s with
    | some l => cases hd
    | none =>
    cases hd
    intro df st K h X hK
    simp only [codeR] at h
    split at h
    · rename_i t ht
      have val : ∀ D β act w, Sic P X n df st D β act w → act.eval c = .bool t := fun D β act w hs => by
        have := hs.sit.tmps.eval c
        rw [ht] at this
        generalize act.eval c = q at this
        cases this
        rfl
      rcases hA.ite _ _ _ h with ⟨rfl, hh⟩ | ⟨rfl, hh⟩
      · obtain ⟨q1, q2⟩ := iha none a rfl _ _ _ hh X hK
        exact ⟨q1, fun D β act w hs F hF hro mm Q hg => wpIn_cond_true (val D β act w hs) (q2 D β act w hs F hF hro mm Q hg)⟩
      · obtain ⟨q1, q2⟩ := ihb none b rfl _ _ _ hh X hK
        exact ⟨q1, fun D β act w hs F hF hro mm Q hg => wpIn_cond_false (val D β act w hs) (q2 D β act w hs F hF hro mm Q hg)⟩
    · exact absurd h hA.ff
  | block id c ih =>
    intro s d hd
    cases s with
    | some l => cases hd
    | none =>
    cases hd
    intro df st K h X hK
    simp only [codeR] at h
    obtain ⟨h1, h2⟩ := ih none c rfl _ _ _ h X (fun e df st hh => by
      cases e with
      | norm => exact hK _ _ _ hh
      | goto l => exact hK _ _ _ hh
      | ret => exact hK _ _ _ hh
      | exit i =>
        simp only at hh
        split at hh
        · exact hK _ _ _ hh
        · exact hK _ _ _ hh)
    refine ⟨h1, fun D β act w hs F hF hro mm Q hg => wpIn_block (h2 D β act w hs F hF hro mm _ fun e df' st' D' β' act' w' hh hs' hp => ?_)⟩
    cases e with
    | norm => exact hg _ df' st' D' β' act' w' hh hs' hp
    | goto l => exact hg _ df' st' D' β' act' w' hh hs' hp
    | ret => exact hg _ df' st' D' β' act' w' hh hs' hp
    | exit i =>
      simp only at hh
      simp only [Ex.to, Exit.inBlock]
      split at hh
      · rename_i e; rw [if_pos e]; exact hg .norm df' st' D' β' act' w' hh hs' hp
      · rename_i e; rw [if_neg e]; exact hg (.exit i) df' st' D' β' act' w' hh hs' hp
  | loop c ih =>
    intro s d hd
    cases s with
    | some l => cases hd
    | none =>
    cases hd
    intro df st K h X hK
    simp only [codeR] at h
    exact iterR_ok hA (ih none c rfl) m df st K h X hK
  | rangeFunc g ps assign body iha ihb =>
    intro s d hd
    cases s with
    | some l => cases hd
    | none =>
    cases hd
    intro df st K h X hK
    simp only [codeR] at h
    cases inr with
    | true => exact absurd h hA.ff
    | false =>
      simp only [cond_false] at h
      split at h
      case h_2 => exact absurd h hA.ff
      rename_i f first cap hf
      obtain ⟨hcb, h⟩ := hA.req _ _ h
      obtain ⟨q1, q2⟩ := hcl _ _ _ _ _ h X (fun a H' nx' hh => by
        split at hh
        · obtain ⟨_, hh⟩ := hA.req _ _ hh
          unfold jumpR at hh
          split at hh
          · exact hK _ _ _ hh
          · exact hK _ _ _ hh
          · exact hK _ _ _ hh
          · exact hK _ _ _ hh
          · exact absurd hh hA.ff
        · exact absurd hh hA.ff)
      refine ⟨by omega, fun D β act w hs F hF hro mm Q hg => wpIn_rangeFunc fun fn _ => ?_⟩
      rw [hro rfl]
      have hcv := hs.sit.tmps.eval g
      rw [hf] at hcv
      obtain ⟨vs, us, hev, c1, c2, c3, c4⟩ : ∃ vs us : Array Value, act.eval g = .func (.func f) vs us ∧ vs.size = first.length ∧ us.size = cap.length ∧ (∀ (j : Nat) (a : AV) (v : Value), first[j]? = some a → (vs[j]? : Option Value) = some v → Cv P (X.en D β st.H.get w) a v) ∧
          (∀ (j : Nat) (a : AV) (v : Value), cap[j]? = some a → (us[j]? : Option Value) = some v → Cv P (X.en D β st.H.get w) a v) := by
        generalize act.eval g = q at hcv
        cases hcv with
        | @fn _ _ _ vs us p1 p2 p3 p4 => exact ⟨vs, us, rfl, p1, p2, p3, p4⟩
      obtain ⟨rec, hrec⟩ : ∃ rec : LoopState → Option Code → Loop, rec = fun s p => { state := s, pending := p, fn, tmps := act.tmps, params := ps, assign, body, defers := w.heap.size } := ⟨_, rfl⟩
      obtain ⟨W1, hW1⟩ : ∃ W1, (w.alloc (.deferred (some []))).alloc (.loop (rec .ready none)) = W1 := ⟨_, rfl⟩
      have hL1 : W1.heap[w.heap.size + 1]? = some (.loop (rec .ready none)) := by
        rw [← hW1]; have := World.alloc_heap_new (w.alloc (.deferred (some []))) (.loop (rec .ready none)); rwa [World.size_alloc] at this
      have hK1 : W1.heap[w.heap.size]? = some (.deferred (some [])) := by
        rw [← hW1]; exact (Below.heap_alloc _ _ _ (by simp)).trans (World.alloc_heap_new w _)
      have hold : ∀ k, k < w.heap.size → W1.heap[k]? = w.heap[k]? := fun k hk => by
        rw [← hW1]; exact (Below.heap_alloc _ _ _ (by simp; omega)).trans (Below.heap_alloc _ _ _ hk)
      have hsz : w.heap.size ≤ W1.heap.size := by rw [← hW1]; simp; omega
      have h3 : W1.os = w.os ∧ W1.tape = w.tape ∧ W1.output = w.output := by rw [← hW1]; exact ⟨rfl, rfl, rfl⟩
      obtain ⟨β1, hm1, hp1, hn1⟩ := hs.sit.mem.news q1 (bs := [.dfr, .loop .ready none n st.env ps assign body st.nx]) (by simp) hold hsz h3 (H' := (st.H.set st.nx (some .dfr)).set (st.nx + 1) (some (.loop .ready none n st.env ps assign body st.nx)))
        (fun k => by
          rw [Tr.get_set, Tr.get_set]
          by_cases e1 : k = st.nx + 1
          · subst e1; rw [if_pos rfl, addB_in _ (by omega) (by simp)]; simp
          · by_cases e2 : k = st.nx
            · subst e2; rw [if_neg e1, if_pos rfl, addB_in _ (Nat.le_refl _) (by simp)]; simp
            · rw [if_neg e1, if_neg e2, addB_out _ (by simp; omega)])
        (fun E' hle hw hnew j b hj => by
          have n0 := hnew 0 (by simp)
          have n1 := hnew 1 (by simp)
          rcases j with _ | _ | j
          · simp only [List.getElem?_cons_zero, Option.some.injEq] at hj
            subst hj
            show E'.w.heap[w.heap.size + 0]? = _
            rw [hw]; exact hK1
          · simp only [List.getElem?_cons_succ, List.getElem?_cons_zero, Option.some.injEq] at hj
            subst hj
            refine ⟨n0.2, fn, act.tmps, ?_, hs.sit.size, fun t a ha => ⟨(hs.sit.tmps t a ha).1, (hs.sit.tmps t a ha).2.mono hle⟩⟩
            rw [hw, hL1, hrec]
            have : E'.β st.nx = w.heap.size := n0.1
            rw [this]
          · simp at hj)
      have n0 := hn1 0 (by simp)
      have n1 := hn1 1 (by simp)
      simp only [Nat.add_zero] at n0
      have hle1 : (X.en D β st.H.get w).le (X.en (Dn D st.nx) β1 _ W1) := hp1.le
      have hrun : ∀ (vs us args : Array Value) (w : World), (callSem (.func (.func f) vs us) args).run P w = .ok (.enter f (vs ++ args ++ us)) w := fun vs us args w => by
        unfold callB at hcb
        split at hcb
        · rename_i fnn hfn
          simp only [Bool.and_eq_true, Bool.not_eq_true'] at hcb
          obtain ⟨d1, d2⟩ := hcb
          have d3 : fnn.body.isNone = false := by cases hb : fnn.body <;> simp_all
          simp [callSem, Deferred.ofValue, invoke, callFunc, hfn, d1, d3, Result.andThen]
          rw [if_neg (by simpa using d1), if_neg (by intro e; rw [e] at d2; cases d2)]
        · cases hcb
      have hcall := q2 (Dn D st.nx) β1 W1 (.func (.func f) vs us) #[.func (.yield (w.heap.size + 1)) #[] #[]] hm1
        (.fn c1 c2 (fun j a v h1 h2 => (c3 j a v h1 h2).mono hle1) (fun j a v h1 h2 => (c4 j a v h1 h2).mono hle1))
        ⟨by simp, fun j a v ha hv => by
          rcases j with _ | j
          · simp at ha hv
            subst ha; subst hv
            have : Cv P (X.en (Dn D st.nx) β1 ((st.H.set st.nx (some .dfr)).set (st.nx + 1) (some (.loop .ready none n st.env ps assign body st.nx))).get W1) (.yld (st.nx + 1)) (.func (.yield (β1 (st.nx + 1))) #[] #[]) := .yld n1.2
            rwa [n1.1] at this
          · simp at ha⟩
      unfold CallRes at hcall
      rw [hrun] at hcall
      refine ⟨w.heap.size + 1, [{ target := .collected w.heap.size, args := #[] }], W1, { target := .fn (.func f) us, args := vs ++ #[.func (.yield (w.heap.size + 1)) #[] #[]] }, W1, f, vs ++ #[.func (.yield (w.heap.size + 1)) #[] #[]] ++ us, W1, ?_, ?_, fun f' _ => hF.fn f', ?_, fun e => (by rw [hF.depth] at e; cases e), ?_⟩
      · rw [← hW1, hrec]; exact run_enterLoop_outer _ _ _ _ _
      · simp [resolve, hev, Deferred.ofValue]
        rfl
      · have := hrun vs us #[.func (.yield (w.heap.size + 1)) #[] #[]] W1
        simpa [callSem, Deferred.ofValue, Result.andThen] using this
      · have hcall2 := Fw.callsIn hF (n := mm - 1) hcall
        refine CallsIn.mono hcall2 ?_
        rintro e W2 ⟨v, rfl, a, H2, nx2, hh, D2, β2, hm2, hp2, hcv2⟩
        split at hh
        case h_2 => exact absurd hh hA.ff
        rename_i s p n' env' ps' as' bo' d' hget
        obtain ⟨hbusy, hh⟩ := hA.req _ _ hh
        have hb1 : β2 (st.nx + 1) = w.heap.size + 1 := (hp2.le.bet _ n1.2).trans n1.1
        have hb0 : β2 st.nx = w.heap.size := (hp2.le.bet _ n0.2).trans n0.1
        have hblk := (hm2.hp.blk (st.nx + 1) _ (ov_sub _ _ _ _ hget)).2.2.2
        obtain ⟨hDd, fn', tmps', hh1, hh2, hh3⟩ := hblk
        simp only [En.mk'_w, En.mk'_β] at hh1
        have hst : s ≠ .busy := fun e => by rw [e] at hbusy; cases hbusy
        obtain ⟨hm3, hp3⟩ := hm2.put hget hh1 (fun _ _ _ e => by cases e) (b' := .loop .exhausted p n' env' ps' as' bo' d') (o' := .loop { state := .exhausted, pending := p, fn := fn', tmps := tmps', params := ps', assign := as', body := bo', defers := β2 d' })
          (fun E' hle hw hself => ⟨hle.dom _ hDd, fn', tmps', by rw [hself, hle.bet _ hDd]; rfl, hh2, fun t a ha => ⟨(hh3 t a ha).1, (hh3 t a ha).2.mono hle⟩⟩)
        obtain ⟨hm4, hp4⟩ := hm3.rem (st.nx + 1)
        have hcg : (H2.set (st.nx + 1) none).get = ((H2.set (st.nx + 1) (some (.loop .exhausted p n' env' ps' as' bo' d'))).set (st.nx + 1) none).get := by
          funext k
          rw [Tr.get_set, Tr.get_set, Tr.get_set]
          by_cases e : k = st.nx + 1
          · simp [e]
          · simp [e]
        have hm5 := hm4.congr hcg
        rw [← hcg] at hp4
        have hpA := hp1.trans hm1.hp hm1.low hp2
        have hpB := hpA.trans hm2.hp hm2.low hp3
        have hpC := hpB.trans hm3.hp hm3.low hp4
        refine ⟨p, W2.putObj (w.heap.size + 1) (.loop { state := .exhausted, pending := p, fn := fn', tmps := tmps', params := ps', assign := as', body := bo', defers := β2 d' }), ?_, ?_⟩
        · rw [hb1] at hh1
          have := run_endLoop (P := P) hh1 hst
          exact this
        · rw [hb1] at hm5 hpC
          have hsic : Sic P X n (st.nx :: df) ⟨st.env, H2.set (st.nx + 1) none, nx2⟩ D2 β2 { act with defers := [{ target := .collected w.heap.size, args := #[] }] ++ act.defers } (W2.putObj (w.heap.size + 1) (.loop { state := .exhausted, pending := p, fn := fn', tmps := tmps', params := ps', assign := as', body := bo', defers := β2 d' })) := by
            refine ⟨⟨hm5, fun t a ha => ⟨(hs.sit.tmps t a ha).1, (hs.sit.tmps t a ha).2.mono hpC.le⟩, hs.sit.size, ?_⟩, fun id hid => ?_⟩
            · show [{ target := Target.collected w.heap.size, args := #[] }] ++ act.defers = marks β2 (st.nx :: df)
              rw [hs.sit.defers]
              have : marks β2 df = marks β df := marks_keep (fun i hi => hpC.le.bet i hi) hs.dd
              simp only [marks, List.map_cons, hb0]
              simp only [marks] at this
              rw [this]
              rfl
            · rcases List.mem_cons.1 hid with rfl | hid
              · exact hp2.le.dom _ n0.2
              · exact hpC.le.dom _ (hs.dd id hid)
          unfold jumpR at hh
          split at hh
          · exact hg .norm _ _ D2 β2 _ _ hh hsic hpC
          · exact wpIn_ret (hg .ret _ _ D2 β2 _ _ hh hsic hpC)
          · exact wpIn_exit (hg (.exit _) _ _ D2 β2 _ _ hh hsic hpC)
          · exact wpIn_goto (hg (.goto _) _ _ D2 β2 _ _ hh hsic hpC)
          · exact absurd hh hA.ff
end

/-! ### 28. Functions, evaluated -/
def resOne (P : Program) (H : Hp) (env : Tr AV) : ResultVar → Ev
  | .tmp t => ok1 (St.tm env t)
  | .cell a ty => loadD P H ty (St.tm env a)
def resList (P : Program) (H : Hp) (env : Tr AV) : List ResultVar → Option (Bool × List AV)
  | [] => some (true, [])
  | r :: l => match resOne P H env r, resList P H env l with
    | some (c, a), some (d, as) => some (c && d, a :: as)
    | _, _ => none
def resA (P : Program) (fn : Func) (H : Hp) (env : Tr AV) : Ev :=
  match resList P H env fn.results.toList with
  | some (c, [a]) => some (c, a)
  | some (c, as) => some (c, .tup as)
  | none => none

def resSem (tmps : Array Value) : ResultVar → Sem Value
  | .tmp t => pure (tmps.getD t undef)
  | .cell a t => do loadVar t (← asAddr (tmps.getD a undef))
theorem results_eq (fn : Func) (tmps : Array Value) : results fn tmps = (do
  let vs ← fn.results.mapM (resSem tmps)
  pure (if h : vs.size = 1 then vs[0] else .tuple vs)) := by
  unfold results
  congr 1
theorem resOne_ok {P : Program} {H : Hp} {env : Tr AV} {r : ResultVar} {c : Bool} {a : AV} (h : resOne P H env r = some (c, a)) (hc : c = true) {E : En} {Ht : Hp} {act : Act} (hs : Sub H Ht) (hh : HpOk P E Ht) (ht : tmpsOk P E env act) :
    ∃ v, (resSem act.tmps r).run P E.w = .ok v E.w ∧ Cv P E a v := by
  cases r with
  | tmp t =>
    cases ok1_inj h
    exact ⟨_, rfl, ht.at t⟩
  | cell b ty =>
    simp only [resOne] at h
    obtain ⟨a', rfl, hr⟩ := loadA_ok (K := fun x => x = a) (loadD_ok h hc rfl)
    obtain ⟨u, hu, hcu⟩ := hr E Ht _ hs hh (ht.at b)
    refine ⟨u, ?_, hcu⟩
    have hcv := ht.at b
    have hp : ∃ ad, act.tmps.getD b undef = .pointer (some ad) := by
      generalize act.tmps.getD b undef = q at hcv
      unfold loadD at h
      split at h
      · rename_i he; rw [he] at hcv; cases hcv; exact ⟨_, rfl⟩
      · rename_i he; rw [he] at hcv; cases hcv; exact ⟨_, rfl⟩
      · rename_i he; rw [he] at hcv; cases hcv; exact ⟨_, rfl⟩
      · cases h
    obtain ⟨ad, hp⟩ := hp
    rw [hp] at hu
    simp only [resSem, Sem.run_bind, hp, asAddr, Sem.run_pure, Result.andThen_ok]
    simpa [Instr.loadAt, Instr.sureAddr, Result.andThen] using hu
theorem resList_ok {P : Program} {H : Hp} {env : Tr AV} {E : En} {Ht : Hp} {act : Act} (hs : Sub H Ht) (hh : HpOk P E Ht) (ht : tmpsOk P E env act) : ∀ {l : List ResultVar} {c : Bool} {as : List AV}, resList P H env l = some (c, as) → c = true →
    ∃ vs : List Value, (l.mapM (resSem act.tmps)).run P E.w = .ok vs E.w ∧ vs.length = as.length ∧
      ∀ (j : Nat) (a : AV) (v : Value), as[j]? = some a → vs[j]? = some v → Cv P E a v
  | [], c, as, h, hc => by
    simp only [resList, Option.some.injEq, Prod.mk.injEq] at h
    obtain ⟨_, rfl⟩ := h
    exact ⟨[], by simp, rfl, fun j a v h => by simp at h⟩
  | r :: l, c, as, h, hc => by
    simp only [resList] at h
    split at h
    · rename_i c1 a1 c2 as2 h1 h2
      simp only [Option.some.injEq, Prod.mk.injEq] at h
      obtain ⟨h3, rfl⟩ := h
      rw [hc] at h3
      simp only [Bool.and_eq_true] at h3
      obtain ⟨v, hv, hcv⟩ := resOne_ok h1 h3.1 hs hh ht
      obtain ⟨vs, hvs, hlen, hcs⟩ := resList_ok hs hh ht h2 h3.2
      refine ⟨v :: vs, ?_, by simp [hlen], fun j a u ha hu => ?_⟩
      · rw [List.mapM_cons]
        simp only [Sem.run_bind, hv, hvs, Result.andThen_ok, Sem.run_pure]
      · cases j with
        | zero => simp at ha hu; subst ha; subst hu; exact hcv
        | succ j => exact hcs j a u (by simpa using ha) (by simpa using hu)
    · cases h
theorem resA_ok {P : Program} {H : Hp} {env : Tr AV} {E : En} {Ht : Hp} {act : Act} (hs : Sub H Ht) (hh : HpOk P E Ht) (ht : tmpsOk P E env act) {fn : Func} {c : Bool} {a : AV} (h : resA P fn H env = some (c, a)) (hc : c = true) :
    ∃ v, (results fn act.tmps).run P E.w = .ok v E.w ∧ Cv P E a v := by
  have key : ∀ as, resList P H env fn.results.toList = some (c, as) → ∃ vs : List Value, (results fn act.tmps).run P E.w = .ok (if h : vs.length = 1 then vs[0] else .tuple vs.toArray) E.w ∧ vs.length = as.length ∧
      ∀ (j : Nat) (a : AV) (v : Value), as[j]? = some a → vs[j]? = some v → Cv P E a v := by
    intro as h1
    obtain ⟨vs, hvs, hlen, hcs⟩ := resList_ok hs hh ht h1 hc
    refine ⟨vs, ?_, hlen, hcs⟩
    rw [results_eq]
    obtain ⟨l, hl⟩ : ∃ l, fn.results = l.toArray := ⟨fn.results.toList, by simp⟩
    rw [hl] at hvs ⊢
    simp only [List.mapM_toArray, Sem.run_bind, Sem.run_map]
    simp at hvs
    simp [hvs, Result.andThen]
  unfold resA at h
  split at h
  · rename_i c' a' h1
    simp only [Option.some.injEq, Prod.mk.injEq] at h
    obtain ⟨rfl, rfl⟩ := h
    obtain ⟨vs, hr, hlen, hcs⟩ := key _ h1
    match vs, hlen with
    | [v], _ => exact ⟨v, by simpa using hr, hcs 0 _ v rfl rfl⟩
  · rename_i c' as hne h1
    simp only [Option.some.injEq, Prod.mk.injEq] at h
    obtain ⟨rfl, rfl⟩ := h
    obtain ⟨vs, hr, hlen, hcs⟩ := key _ h1
    have hn1 : vs.length ≠ 1 := fun e => by
      rw [e] at hlen
      match as, hlen with
      | [x], _ => exact (hne x rfl).elim
    rw [dif_neg hn1] at hr
    exact ⟨_, hr, .tup (by simpa using hlen) fun j a v ha hv => hcs j a v ha (by simpa using hv)⟩
  · cases h

/-! ### 29. One call, evaluated -/
def dropDf : List Nat → Tr Blk → Option (Tr Blk)
  | [], H => some H
  | id :: df, H => match H.get id with
    | some .dfr => dropDf df (H.set id none)
    | _ => none
def envL : Nat → List AV → Tr AV → Tr AV
  | _, [], t => t
  | k, a :: as, t => envL (k + 1) as (t.set k (some a))
def putL : Tr AV → List (Tmp × AV) → Tr AV
  | env, [] => env
  | env, (t, a) :: l => putL (env.set t (some a)) l
/-- A function without a body, answered: nothing turns. -/
abbrev ExE := FuncId → List AV → Hp → Option (Bool × AV)
def ExOk (P : Program) (ex : ExE) : Prop := ∀ g as H c a, ex g as H = some (c, a) → c = true → ∀ (E : En) (Ht : Hp) (vs : Array Value), Sub H Ht → HpOk P E Ht → argsOk P E as vs → ∃ v, (callFunc g vs).run P E.w = .ok (.value v) E.w ∧ Cv P E a v

section
variable {R : Type} (A : Alg R) (P : Program) (ex : ExE) (m : Nat) (cl : CallE R) (cd : CallD)
def fnR (g : FuncId) (as : List AV) (H : Tr Blk) (nx : Nat) (K : AV → Tr Blk → Nat → R) : R :=
  match P.funcs[g]? with
  | none => A.ff
  | some fn => match fn.body with
    | none => (match ex g as H.get with
      | some (c, a) => A.req c fun _ => K a H nx
      | none => A.ff)
    | some c => A.req (callB P g && Nat.ble as.length fn.ntmps) fun _ => codeR A P cl cd false fn.ntmps m c none [] ⟨envL 0 as .leaf, H, nx⟩ fun e df st => match e with
      | .exit _ => A.ff
      | .goto _ => A.ff
      | _ => match dropDf df st.H with
        | none => A.ff
        | some H => match resA P fn H.get st.env with
          | some (c, a) => A.req c fun _ => K a H st.nx
          | none => A.ff
def ydR (id : Nat) (args : List AV) (H : Tr Blk) (nx : Nat) (K : AV → Tr Blk → Nat → R) : R :=
  match H.get id with
  | some (.loop .ready _ n env ps assign body _) => A.req (Nat.beq args.length ps.size && ps.all (Nat.blt · n)) fun _ => (codeR A P cl cd true n m assign none [] ⟨putL env (ps.toList.zip args), H, nx⟩ fun e df st => match e with
    | .norm => (match st.H.get id with
      | some (.loop .ready p n' env' ps' as' bo' d') => codeR A P cl cd true n m body none df ⟨st.env, st.H.set id (some (.loop .busy p n' env' ps' as' bo' d')), st.nx⟩ fun e _ st =>
        match st.H.get id with
        | some (.loop _ _ n' env' ps' as' bo' d') => (match e with
          | .norm => K (.bool true) (st.H.set id (some (.loop .ready none n' env' ps' as' bo' d'))) st.nx
          | .ret => K (.bool false) (st.H.set id (some (.loop .done (some .ret) n' env' ps' as' bo' d'))) st.nx
          | .goto i => K (.bool false) (st.H.set id (some (.loop .done (some (.goto i)) n' env' ps' as' bo' d'))) st.nx
          | .exit i => K (.bool false) (st.H.set id (some (.loop .done (some (.exit i)) n' env' ps' as' bo' d'))) st.nx)
        | _ => A.ff
      | _ => A.ff)
    | _ => A.ff)
  | _ => A.ff
def callStep : CallE R := fun f args H nx K => match f with
  | .fn (.func g) first cap => fnR A P ex m cl cd g (first ++ (args ++ cap)) H nx K
  | .yld id => ydR A P m cl cd id args H nx K
  | _ => A.ff
end

theorem envL_get : ∀ (as : List AV) (k : Nat) (t : Tr AV) (j : Nat) (a : AV), (envL k as t).get j = some a → (∃ i, j = k + i ∧ as[i]? = some a) ∨ t.get j = some a
  | [], k, t, j, a, h => .inr h
  | b :: as, k, t, j, a, h => by
    rcases envL_get as (k + 1) _ j a h with ⟨i, rfl, hi⟩ | h
    · exact .inl ⟨i + 1, by omega, by simpa using hi⟩
    · rw [Tr.get_set] at h
      split at h
      · rename_i e; cases h; exact .inl ⟨0, by omega, rfl⟩
      · exact .inr h
theorem putL_ok {P : Program} {E : En} : ∀ {l : List (Tmp × AV)} {lv : List (Tmp × Value)} {env : Tr AV} {tmps : Array Value}, (∀ t a, env.get t = some a → t < tmps.size ∧ Cv P E a (tmps.getD t undef)) → lv.length = l.length →
    (∀ (j : Nat) (x : Tmp × AV) (y : Tmp × Value), l[j]? = some x → lv[j]? = some y → y.1 = x.1 ∧ x.1 < tmps.size ∧ Cv P E x.2 y.2) →
    (lv.foldl (fun tmps (t, a) => tmps.setIfInBounds t a) tmps).size = tmps.size ∧ ∀ t a, (putL env l).get t = some a → t < tmps.size ∧ Cv P E a ((lv.foldl (fun tmps (t, a) => tmps.setIfInBounds t a) tmps).getD t undef)
  | [], [], env, tmps, h, _, _ => ⟨rfl, h⟩
  | [], _ :: _, _, _, _, h, _ => by simp at h
  | _ :: _, [], _, _, _, h, _ => by simp at h
  | (t, a) :: l, (t', v) :: lv, env, tmps, h, hlen, hx => by
    obtain ⟨rfl, h1, h2⟩ := hx 0 (t, a) (t', v) rfl rfl
    simp only at h1 h2
    have := putL_ok (l := l) (lv := lv) (env := env.set t' (some a)) (tmps := tmps.setIfInBounds t' v) (fun u b hb => by
      rw [Tr.get_set] at hb
      by_cases e : u = t'
      · subst e
        rw [if_pos rfl] at hb
        cases hb
        exact ⟨by simpa using h1, by simpa [h1] using h2⟩
      · rw [if_neg e] at hb
        obtain ⟨h3, h4⟩ := h u b hb
        refine ⟨by simpa using h3, ?_⟩
        have : (tmps.setIfInBounds t' v).getD u undef = tmps.getD u undef := by simp [Array.getElem?_setIfInBounds_ne (Ne.symm e)]
        rw [this]
        exact h4) (by simpa using hlen) (fun j x y hj hy => by
      obtain ⟨q1, q2, q3⟩ := hx (j + 1) x y (by simpa using hj) (by simpa using hy)
      exact ⟨q1, by simpa using q2, q3⟩)
    simp only [Array.size_setIfInBounds] at this
    exact this

/-- The marks are taken, one by one. -/
theorem leaves_ok {P : Program} {X : Fix} {D : Nat → Prop} {β : Nat → Nat} {nx : Nat} {fn : Func} {tmps : Array Value} {Rr : Ending → World → Prop} {n : Nat} {F : Fence} : ∀ {df : List Nat} {H H' : Tr Blk} {w : World}, dropDf df H = some H' → Mem P X D β H nx w →
    (∀ w', Mem P X D β H' nx w' → Pg X.N X.B D β (ov H.get X.G) w nx D β (ov H'.get X.G) w' nx → LeavesIn F n P fn tmps Rr [] .returning w') → LeavesInM F n P fn tmps Rr (marks β df) .returning w
  | [], H, H', w, h, hm, hk => by
    simp only [dropDf, Option.some.injEq] at h
    subst h
    exact hk w hm (.refl _ _ _ _ _ _ _)
  | id :: df, H, H', w, h, hm, hk => by
    simp only [dropDf] at h
    split at h
    · rename_i hi
      have hblk : w.heap[β id]? = some (.deferred (some [])) := (hm.hp.blk id _ (ov_sub _ _ _ _ hi)).2.2.2
      obtain ⟨hm1, hp1⟩ := hm.put hi hblk (fun _ _ _ e => by cases e) (b' := .junk) (o' := .deferred none) (fun E' _ _ hs => ⟨_, hs⟩)
      obtain ⟨hm2, hp2⟩ := hm1.rem id
      have hcg : (H.set id none).get = ((H.set id (some .junk)).set id none).get := by
        funext k
        rw [Tr.get_set, Tr.get_set, Tr.get_set]
        by_cases e : k = id <;> simp [e]
      have hm3 := hm2.congr hcg
      rw [← hcg] at hp2
      have hp3 := hp1.trans hm1.hp hm1.low hp2
      refine ⟨by simp, .inl ⟨β id, _, rfl, run_takeDeferred hblk, ?_⟩⟩
      exact leaves_ok h hm3 fun w' hm' hp' => hk w' hm' (hp3.trans hm3.hp hm3.low hp')
    · cases h

section
variable {R : Type} {A : Alg R} {holds : R → Prop} (hA : AlgOk A holds) {P : Program} {ex : ExE} (hex : ExOk P ex) {m : Nat} {cl : CallE R} (hcl : ClOk P holds cl) {cd : CallD} (hcd : CdOk P cd) (hmx : P.follows .mixedOrders = true)
include hA hcl hcd hmx

theorem fnR_ok (hex : ExOk P ex) {g : FuncId} {as : List AV} {H : Tr Blk} {nx : Nat} {K : AV → Tr Blk → Nat → R} (h : holds (fnR A P ex m cl cd g as H nx K)) {X : Fix} (hK : ∀ a H' nx', holds (K a H' nx') → nx' ≤ X.lim) :
    nx ≤ X.lim ∧ ∀ D β w (vs : Array Value), Mem P X D β H nx w → argsOk P (X.en D β H.get w) as vs → ∀ (fv us : Array Value) (args : Array Value), fv ++ args ++ us = vs →
      CallRes P (.func (.func g) fv us) args w fun v w' => ∃ a H' nx', holds (K a H' nx') ∧ After P X D β H w nx a H' nx' v w' := by
  unfold fnR at h
  split at h
  · exact absurd h hA.ff
  rename_i fn hfn
  have hsem : ∀ (fv us args : Array Value) (w : World), (callSem (.func (.func g) fv us) args).run P w = (callFunc g (fv ++ args ++ us)).run P w := fun fv us args w => by
    simp [callSem, Deferred.ofValue, invoke, Result.andThen]
  split at h
  · split at h
    · rename_i c a he
      obtain ⟨hc, h⟩ := hA.req _ _ h
      refine ⟨hK _ _ _ h, fun D β w vs hm hvs fv us args hargs => ?_⟩
      obtain ⟨v, hv, hcv⟩ := hex g as H.get c a he hc (X.en D β H.get w) (ov H.get X.G) vs (ov_sub _ _) hm.hp hvs
      have hv' : (callFunc g vs).run P w = .ok (.value v) w := hv
      unfold CallRes
      rw [hsem, hargs, hv']
      exact ⟨a, H, nx, h, D, β, hm, .refl _ _ _ _ _ _ _, hcv⟩
    · exact absurd h hA.ff
  · rename_i c hbody
    obtain ⟨h1, h⟩ := hA.req _ _ h
    simp only [Bool.and_eq_true] at h1
    obtain ⟨hcb, hlen⟩ := h1
    have hlen := Nat.le_of_ble_eq_true hlen
    obtain ⟨q1, q2⟩ := codeR_ok hA hcl hcd hmx c none c rfl _ _ _ h X (fun e df st hh => by
      have key : holds (match dropDf df st.H with
        | none => A.ff
        | some H => match resA P fn H.get st.env with
          | some (c, a) => A.req c fun _ => K a H st.nx
          | none => A.ff) → st.nx ≤ X.lim := fun hh => by
        split at hh
        · exact absurd hh hA.ff
        · split at hh
          · exact hK _ _ _ (hA.req _ _ hh).2
          · exact absurd hh hA.ff
      cases e with
      | exit i => exact absurd hh hA.ff
      | goto l => exact absurd hh hA.ff
      | norm => exact key hh
      | ret => exact key hh)
    refine ⟨q1, fun D β w vs hm hvs fv us args hargs => ?_⟩
    unfold CallRes
    have hrun : (callFunc g vs).run P w = .ok (.enter g vs) w := by
      unfold callB at hcb
      rw [hfn] at hcb
      simp only [Bool.and_eq_true, Bool.not_eq_true'] at hcb
      obtain ⟨d1, d2⟩ := hcb
      have d3 : fn.body.isNone = false := by rw [hbody]; rfl
      simp [callFunc, hfn, d3, Result.andThen]
      rw [if_neg (by simpa using d1), if_neg (by intro e; rw [e] at d2; cases d2)]
    rw [hsem, hargs, hrun]
    show Calls P g vs w _
    refine (callsIn_wide (n := 0)).1 (callsIn_of_wp_marks hfn hbody trivial ?_)
    have hsz : (vs ++ Array.replicate (fn.ntmps - vs.size) undef).size = fn.ntmps := by simp; have := hvs.1; omega
    refine q2 D β _ w ⟨⟨hm, fun t a ha => ?_, hsz, rfl⟩, fun id hid => by simp at hid⟩ Fence.wide Fw.wide (fun _ => rfl) 0 _ fun e df' st' D' β' act' w' hh hs' hp => ?_
    · rcases envL_get as 0 _ t a ha with ⟨i, rfl, hi⟩ | hi
      · simp only [Nat.zero_add]
        have hil : i < vs.size := by have := (List.getElem?_eq_some_iff.1 hi).1; have := hvs.1; omega
        refine ⟨by rw [hsz]; have := hvs.1; omega, ?_⟩
        have : (vs ++ Array.replicate (fn.ntmps - vs.size) undef).getD i undef = vs[i] := by simp [Array.getElem?_append, hil]
        show Cv P _ a ((vs ++ Array.replicate (fn.ntmps - vs.size) undef).getD i undef)
        rw [this]
        exact hvs.2 i a _ hi (by simp [hil])
      · simp [Tr.get] at hi
    · have key : holds (match dropDf df' st'.H with
        | none => A.ff
        | some H => match resA P fn H.get st'.env with
          | some (c, a) => A.req c fun _ => K a H st'.nx
          | none => A.ff) → LeavesInM Fence.wide 0 P fn act'.tmps (fun e w'' => ∃ v, e = .returned v ∧ ∃ a H' nx', holds (K a H' nx') ∧ After P X D β H w nx a H' nx' v w'') act'.defers .returning w' := fun hh => by
        split at hh
        · exact absurd hh hA.ff
        · rename_i H2 hdrop
          split at hh
          · rename_i c2 a2 hres
            obtain ⟨hc2, hh⟩ := hA.req _ _ hh
            rw [hs'.sit.defers]
            refine leaves_ok hdrop hs'.sit.mem fun w2 hm2 hp2 => ?_
            have hp3 := hp.trans hs'.sit.mem.hp hs'.sit.mem.low hp2
            obtain ⟨v, hv, hcv⟩ := resA_ok (ov_sub H2.get X.G) hm2.hp (hs'.sit.tmps.mono hp2.le) hres hc2
            exact ⟨v, hv, v, rfl, a2, H2, st'.nx, hh, D', β', hm2, hp3, hcv⟩
          · exact absurd hh hA.ff
      cases e with
      | exit i => exact absurd hh hA.ff
      | goto l => exact absurd hh hA.ff
      | norm => exact key hh
      | ret => exact key hh

theorem ydR_ok {id : Nat} {args : List AV} {H : Tr Blk} {nx : Nat} {K : AV → Tr Blk → Nat → R} (h : holds (ydR A P m cl cd id args H nx K)) {X : Fix} (hK : ∀ a H' nx', holds (K a H' nx') → nx' ≤ X.lim) :
    nx ≤ X.lim ∧ ∀ D β w (vs : Array Value), Mem P X D β H nx w → argsOk P (X.en D β H.get w) args vs →
      CallRes P (.func (.yield (β id)) #[] #[]) vs w fun v w' => ∃ a H' nx', holds (K a H' nx') ∧ After P X D β H w nx a H' nx' v w' := by
  unfold ydR at h
  split at h
  case h_2 => exact absurd h hA.ff
  rename_i p0 n env ps assign body d0 hget
  obtain ⟨h1, h⟩ := hA.req _ _ h
  simp only [Bool.and_eq_true] at h1
  obtain ⟨hlen, hps⟩ := h1
  have hlen := Nat.eq_of_beq_eq_true hlen
  have kEnd : ∀ {e : Ex} {st : St}, holds (match st.H.get id with
        | some (.loop _ _ n' env' ps' as' bo' d') => (match e with
          | .norm => K (.bool true) (st.H.set id (some (.loop .ready none n' env' ps' as' bo' d'))) st.nx
          | .ret => K (.bool false) (st.H.set id (some (.loop .done (some .ret) n' env' ps' as' bo' d'))) st.nx
          | .goto i => K (.bool false) (st.H.set id (some (.loop .done (some (.goto i)) n' env' ps' as' bo' d'))) st.nx
          | .exit i => K (.bool false) (st.H.set id (some (.loop .done (some (.exit i)) n' env' ps' as' bo' d'))) st.nx)
        | _ => A.ff) → st.nx ≤ X.lim := fun {e st} hh => by
    split at hh
    · cases e <;> exact hK _ _ _ hh
    · exact absurd hh hA.ff
  have kMid : ∀ {df : List Nat} {st : St}, holds (match st.H.get id with
      | some (.loop .ready p n' env' ps' as' bo' d') => codeR A P cl cd true n m body none df ⟨st.env, st.H.set id (some (.loop .busy p n' env' ps' as' bo' d')), st.nx⟩ fun e _ st =>
        match st.H.get id with
        | some (.loop _ _ n' env' ps' as' bo' d') => (match e with
          | .norm => K (.bool true) (st.H.set id (some (.loop .ready none n' env' ps' as' bo' d'))) st.nx
          | .ret => K (.bool false) (st.H.set id (some (.loop .done (some .ret) n' env' ps' as' bo' d'))) st.nx
          | .goto i => K (.bool false) (st.H.set id (some (.loop .done (some (.goto i)) n' env' ps' as' bo' d'))) st.nx
          | .exit i => K (.bool false) (st.H.set id (some (.loop .done (some (.exit i)) n' env' ps' as' bo' d'))) st.nx)
        | _ => A.ff
      | _ => A.ff) → st.nx ≤ X.lim := fun {df st} hh => by
    split at hh
    · exact (codeR_ok hA hcl hcd hmx body none body rfl _ _ _ hh X fun e df st hh => kEnd hh).1
    · exact absurd hh hA.ff
  obtain ⟨q1, q2⟩ := codeR_ok hA hcl hcd hmx assign none assign rfl _ _ _ h X (fun e df st hh => by
    cases e with
    | norm => exact kMid hh
    | exit i => exact absurd hh hA.ff
    | goto l => exact absurd hh hA.ff
    | ret => exact absurd hh hA.ff)
  refine ⟨q1, fun D β w vs hm hvs => ?_⟩
  obtain ⟨hDd, fn, tmps, hh1, hh2, hh3⟩ := (hm.hp.blk id _ (ov_sub _ _ _ _ hget)).2.2.2
  have hDid := (hm.hp.blk id _ (ov_sub _ _ _ _ hget)).1
  simp only [En.mk'_w, En.mk'_β] at hh1
  unfold CallRes
  have hrun : (callSem (.func (.yield (β id)) #[] #[]) vs).run P w = .ok (.round (β id) fn ((ps.zip vs).foldl (fun tmps (t, a) => tmps.setIfInBounds t a) tmps) assign body) w := by
    have := run_yield (P := P) (args := vs) hh1 (by simp only; rw [hvs.1, hlen])
    have e : (callSem (.func (.yield (β id)) #[] #[]) vs).run P w = (Instr.yield (β id) vs).run P w := by simp [callSem, Deferred.ofValue, invoke, Result.andThen]
    rw [e]
    exact this
  rw [hrun]
  dsimp only
  refine roundIn_of_wpIn trivial ?_
  have hfold : (ps.zip vs).foldl (fun tmps (t, a) => tmps.setIfInBounds t a) tmps = (ps.toList.zip vs.toList).foldl (fun tmps (t, a) => tmps.setIfInBounds t a) tmps := by
    rw [← Array.foldl_toList]; simp
  rw [hfold]
  have hput := putL_ok (P := P) (E := X.en D β H.get w) (l := ps.toList.zip args) (lv := ps.toList.zip vs.toList) (env := env) (tmps := tmps) hh3 (by simp [hvs.1]) (fun j x y hx hy => by
    rw [List.getElem?_zip_eq_some] at hx hy
    obtain ⟨a1, a2⟩ := hx
    obtain ⟨b1, b2⟩ := hy
    refine ⟨by rw [a1] at b1; exact (Option.some.inj b1).symm, ?_, hvs.2 j _ _ a2 (by simpa using b2)⟩
    have := Array.all_eq_true_iff_forall_mem.1 hps x.1 (by rw [Array.getElem?_toList] at a1; exact Array.mem_of_getElem? a1)
    rw [hh2]
    simpa [Nat.blt_eq] using this)
  refine q2 D β _ w ⟨⟨hm, fun t a ha => ?_, ?_, rfl⟩, fun id hid => by simp at hid⟩ (Fence.wide.inRound (β id)) (Fw.wide.inRound _) (fun e => by cases e) 0 _ fun e df' st' D' β' act' w' hh hs' hp => ?_
  · obtain ⟨h3, h4⟩ := hput.2 t a ha
    exact ⟨by rw [hput.1]; exact h3, h4⟩
  · show (List.foldl _ tmps _).size = n
    rw [hput.1, hh2]
  · cases e with
    | exit i => exact absurd hh hA.ff
    | goto l => exact absurd hh hA.ff
    | ret => exact absurd hh hA.ff
    | norm =>
      simp only at hh
      split at hh
      case h_2 => exact absurd hh hA.ff
      rename_i p n' env' ps' as' bo' d' hget2
      obtain ⟨hDd2, fn2, tmps2, g1, g2, g3⟩ := (hs'.sit.mem.hp.blk id _ (ov_sub _ _ _ _ hget2)).2.2.2
      simp only [En.mk'_w, En.mk'_β] at g1
      have hb1 : β' id = β id := hp.le.bet _ hDid
      obtain ⟨hm2, hp2⟩ := hs'.sit.mem.put hget2 g1 (fun _ _ _ e => by cases e) (b' := .loop .busy p n' env' ps' as' bo' d') (o' := .loop { state := .busy, pending := p, fn := fn2, tmps := tmps2, params := ps', assign := as', body := bo', defers := β' d' })
        (fun E' hle hw hself => ⟨hle.dom _ hDd2, fn2, tmps2, by rw [hself, hle.bet _ hDd2]; rfl, g2, fun t a ha => ⟨(g3 t a ha).1, (g3 t a ha).2.mono hle⟩⟩)
      have hp2' := hp.trans hs'.sit.mem.hp hs'.sit.mem.low hp2
      refine ⟨_, by have := run_beginRound (P := P) g1 rfl; rw [hb1] at this; exact this, ?_⟩
      rw [hb1] at hm2 hp2 hp2'
      refine (codeR_ok hA hcl hcd hmx body none body rfl _ _ _ hh X fun e df st hh => kEnd hh).2 D' β' act' _ ⟨⟨hm2, hs'.sit.tmps.mono hp2.le, hs'.sit.size, hs'.sit.defers⟩, hs'.dd⟩ (Fence.wide.inRound (β id)) (Fw.wide.inRound _) (fun e => by cases e) 0 _ fun e df3 st3 D3 β3 act3 w3 hh hs3 hp3 => ?_
      dsimp only at hh
      split at hh
      case h_2 => exact absurd hh hA.ff
      rename_i s4 p4 n4 env4 ps4 as4 bo4 d4 hget4
      obtain ⟨hDd4, fn4, tmps4, k1, k2, k3⟩ := (hs3.sit.mem.hp.blk id _ (ov_sub _ _ _ _ hget4)).2.2.2
      simp only [En.mk'_w, En.mk'_β] at k1
      have hb3 : β3 id = β id := (hp3.le.bet _ (hp.le.dom _ hDid)).trans hb1
      have hpA := hp2'.trans hm2.hp hm2.low hp3
      have fin : ∀ (jump : Option Code), ∃ w4, (Instr.endRound (β id) jump).run P w3 = .ok (.bool jump.isNone) w4 ∧ ∀ (b : Bool), jump.isNone = b → holds (K (.bool b) (st3.H.set id (some (.loop (if jump.isNone then .ready else .done) jump n4 env4 ps4 as4 bo4 d4))) st3.nx) →
          ∃ a H' nx', holds (K a H' nx') ∧ After P X D β H w nx a H' nx' (.bool jump.isNone) w4 := fun jump => by
        obtain ⟨hm4, hp4⟩ := hs3.sit.mem.put hget4 k1 (fun _ _ _ e => by cases e) (b' := .loop (if jump.isNone then .ready else .done) jump n4 env4 ps4 as4 bo4 d4)
          (o' := .loop { state := if jump.isNone then .ready else .done, pending := jump, fn := fn4, tmps := tmps4, params := ps4, assign := as4, body := bo4, defers := β3 d4 })
          (fun E' hle hw hself => ⟨hle.dom _ hDd4, fn4, tmps4, by rw [hself, hle.bet _ hDd4]; rfl, k2, fun t a ha => ⟨(k3 t a ha).1, (k3 t a ha).2.mono hle⟩⟩)
        have hpB := hpA.trans hs3.sit.mem.hp hs3.sit.mem.low hp4
        refine ⟨_, by have := run_endRound (P := P) jump k1; rw [hb3] at this; exact this, fun b hb hk => ⟨_, _, _, hk, D3, β3, ?_, ?_, by rw [hb]; exact .bool b⟩⟩
        · rw [hb3] at hm4; exact hm4
        · rw [hb3] at hpB; exact hpB
      cases e with
      | norm =>
        obtain ⟨w4, r1, r2⟩ := fin none
        exact ⟨_, w4, r1, _, rfl, r2 true rfl hh⟩
      | ret =>
        obtain ⟨w4, r1, r2⟩ := fin (some .ret)
        exact ⟨_, w4, r1, _, rfl, r2 false rfl hh⟩
      | exit i =>
        obtain ⟨w4, r1, r2⟩ := fin (some (.exit i))
        exact ⟨_, w4, r1, _, rfl, r2 false rfl hh⟩
      | goto i =>
        obtain ⟨w4, r1, r2⟩ := fin (some (.goto i))
        exact ⟨_, w4, r1, _, rfl, r2 false rfl hh⟩
end

/-! ### 30. Calls of calls; a closed run -/
section
variable {R : Type} {A : Alg R} {holds : R → Prop} (hA : AlgOk A holds) {P : Program} {ex : ExE} (hex : ExOk P ex) {m : Nat} {cl : CallE R} (hcl : ClOk P holds cl) {cd : CallD} (hcd : CdOk P cd) (hmx : P.follows .mixedOrders = true)
include hA hcl hcd hmx hex
theorem callStep_ok : ClOk P holds (callStep A P ex m cl cd) := by
  intro f args H nx K h X hK
  unfold callStep at h
  split at h
  · rename_i g first cap
    obtain ⟨q1, q2⟩ := fnR_ok hA hcl hcd hmx hex h hK
    refine ⟨q1, fun D β w fv vs hm hf hvs => ?_⟩
    cases hf with
    | @fn _ _ _ va us p1 p2 p3 p4 =>
      refine q2 D β w (va ++ vs ++ us) hm ⟨by simp [p1, p2, hvs.1], fun j a v ha hv => ?_⟩ va us vs rfl
      rw [Array.getElem?_append] at hv
      simp only [Array.size_append] at hv
      by_cases hj1 : j < va.size + vs.size
      · rw [if_pos hj1, Array.getElem?_append] at hv
        by_cases hj2 : j < va.size
        · rw [if_pos hj2] at hv
          rw [List.getElem?_append_left (by omega)] at ha
          exact p3 j a v ha hv
        · rw [if_neg hj2] at hv
          rw [List.getElem?_append_right (by omega), List.getElem?_append_left (by have := hvs.1; omega)] at ha
          rw [p1] at hv
          exact hvs.2 _ a v ha hv
      · rw [if_neg hj1] at hv
        rw [List.getElem?_append_right (by omega), List.getElem?_append_right (by have := hvs.1; omega)] at ha
        refine p4 _ a v ha ?_
        rw [← hv]
        congr 1
        have := hvs.1
        omega
  · rename_i id
    obtain ⟨q1, q2⟩ := ydR_ok hA hcl hcd hmx h hK
    refine ⟨q1, fun D β w fv vs hm hf hvs => ?_⟩
    cases hf with
    | yld hD => exact q2 D β w vs hm hvs
  · exact absurd h hA.ff
end

abbrev Ans := AV × Tr Blk × Nat
def ansK : AV → Tr Blk → Nat → Option Ans := fun a H nx => some (a, H, nx)
def fnO (P : Program) (ex : ExE) (m : Nat) : Nat → CallE (Option Ans)
  | 0 => fun _ _ _ _ _ => none
  | f + 1 => callStep (optAlg Ans) P ex m (fnO P ex m f) fun g as H nx => fnO P ex m f g as H nx ansK
theorem cd_of_cl {P : Program} {cl : CallE (Option Ans)} (h : ∀ x, ClOk P (fun r => r = some x) cl) : CdOk P fun g as H nx => cl g as H nx ansK := by
  intro g args H nx a H' nx' he X hX
  have hK : ∀ (Y : Fix), nx' ≤ Y.lim → ∀ b H2 n2, (fun r => r = some (a, H', nx')) (ansK b H2 n2) → n2 ≤ Y.lim := fun Y hY b H2 n2 e => by
    simp only [ansK, Option.some.injEq, Prod.mk.injEq] at e
    omega
  refine ⟨(h (a, H', nx') g args H nx ansK he ⟨fun _ => False, 0, noHp, nx'⟩ (hK _ (Nat.le_refl _))).1, fun D β w fv vs hm hf hvs => ?_⟩
  refine ((h (a, H', nx') g args H nx ansK he X (hK X hX)).2 D β w fv vs hm hf hvs).mono ?_
  rintro v w' ⟨b, H2, n2, e, ha⟩
  simp only [ansK, Option.some.injEq, Prod.mk.injEq] at e
  obtain ⟨rfl, rfl, rfl⟩ := e
  exact ha
theorem fnO_ok {P : Program} {ex : ExE} (hex : ExOk P ex) (m : Nat) (hmx : P.follows .mixedOrders = true) : ∀ f x, ClOk P (fun r => r = some x) (fnO P ex m f)
  | 0, x => fun _ _ _ _ _ h => by cases h
  | f + 1, x => callStep_ok (optAlg_ok x) hex (fnO_ok hex m hmx f x) (cd_of_cl (fnO_ok hex m hmx f)) hmx

/-- A closed run comes to 'true'. -/
def closedRun (P : Program) (ex : ExE) (m f : Nat) (g : FuncId) : Bool :=
  callB P g && (match fnO P ex m f (.fn (.func g) [] []) [] .leaf 0 ansK with
    | some (.bool true, _, _) => true
    | _ => false)
theorem closedRun_ok {P : Program} {ex : ExE} {m f : Nat} {g : FuncId} (hex : ExOk P ex) (hmx : P.follows .mixedOrders = true) (h : closedRun P ex m f g = true) (w : World) : Calls P g #[] w fun e w' => e = .returned (.bool true) ∧ Below w.heap.size w w' := by
  unfold closedRun at h
  simp only [Bool.and_eq_true] at h
  obtain ⟨hcb, h⟩ := h
  split at h
  case h_2 => cases h
  rename_i H' nx' he
  have hc := (cd_of_cl (fnO_ok hex m hmx f)) (.fn (.func g) [] []) [] .leaf 0 _ _ _ he ⟨fun _ => False, w.heap.size, noHp, nx'⟩ (Nat.le_refl _)
  have := hc.2 (fun _ => False) (fun _ => 0) w (.func (.func g) #[] #[]) #[] ⟨⟨fun i b hi => by simp [ov, noHp, Tr.get] at hi, fun i j b c hi => by simp [ov, noHp, Tr.get] at hi⟩, fun _ _ _ h => h, Nat.le_refl _, fun _ h => h.elim, fun k b hk => by simp [noHp] at hk⟩
    (.fn rfl rfl (fun j a v ha => by simp at ha) (fun j a v ha => by simp at ha)) ⟨rfl, fun j a v ha => by simp at ha⟩
  unfold CallRes at this
  have hrun : (callSem (.func (.func g) #[] #[]) #[]).run P w = .ok (.enter g #[]) w := by
    unfold callB at hcb
    split at hcb
    · rename_i fn hfn
      simp only [Bool.and_eq_true, Bool.not_eq_true'] at hcb
      obtain ⟨d1, d2⟩ := hcb
      have d3 : fn.body.isNone = false := by cases hb : fn.body <;> simp_all
      simp [callSem, Deferred.ofValue, invoke, callFunc, hfn, d3, Result.andThen]
      rw [if_neg (by simpa using d1), if_neg (by intro e; rw [e] at d2; cases d2)]
    · cases hcb
  rw [hrun] at this
  dsimp only at this
  refine Calls.mono this ?_
  rintro e w' ⟨v, rfl, D', β', hm, hp, hcv⟩
  have hv : v = .bool true := by
    generalize v = q at hcv
    cases hcv
    rfl
  subst hv
  exact ⟨rfl, ⟨hp.fr.os, hp.fr.tape, hp.fr.output, hp.fr.size, fun k hk => hp.fr.block k hk fun i b hi => by simp [ov, noHp, Tr.get] at hi⟩⟩

/-! ### 31. Functions without a body -/
def toVal : AV → Option Value
  | .int k n => some (.int k n)
  | .bool b => some (.bool b)
  | .str s => some (.string s)
  | _ => none
theorem toVal_ok {P : Program} {E : En} {a : AV} {u v : Value} (h : toVal a = some u) (hc : Cv P E a v) : v = u := by
  cases hc <;> simp only [toVal, Option.some.injEq, reduceCtorEq] at h <;> exact h
def toVals : List AV → Option (List Value)
  | [] => some []
  | a :: as => match toVal a, toVals as with
    | some v, some vs => some (v :: vs)
    | _, _ => none
theorem toVals_ok {P : Program} {E : En} : ∀ {as : List AV} {us vs : List Value}, toVals as = some us → vs.length = as.length → (∀ (j : Nat) (a : AV) (v : Value), as[j]? = some a → vs[j]? = some v → Cv P E a v) → vs = us
  | [], us, vs, h, hl, _ => by
    simp only [toVals, Option.some.injEq] at h
    subst h
    exact List.eq_nil_of_length_eq_zero hl
  | a :: as, us, vs, h, hl, hc => by
    simp only [toVals] at h
    split at h
    · rename_i v vs' h1 h2
      simp only [Option.some.injEq] at h
      subst h
      match vs, hl with
      | x :: xs, hl =>
        have e1 := toVal_ok h1 (hc 0 a x rfl rfl)
        have e2 := toVals_ok (us := vs') (vs := xs) h2 (by simpa using hl) (fun j b y hb hy => hc (j + 1) b y (by simpa using hb) (by simpa using hy))
        rw [e1, e2]
    · cases h
abbrev ExTab := List (FuncId × (Array Value → Sem Value))
def exTabE (t : ExTab) : ExE := fun g as _ => match t.find? (fun x => Nat.beq x.1 g), toVals as with
  | some (_, e), some vs => (match e vs.toArray with
    | .pure v => some (true, avCell v)
    | _ => none)
  | _, _ => none
def exFact (P : Program) (g : FuncId) (e : Array Value → Sem Value) : Prop :=
  ∃ fn, P.funcs[g]? = some fn ∧ (fn.name == "runtime.NumGoroutine") = false ∧ fn.body.isNone = true ∧ (Extern.findNext fn).isNone = true ∧ Extern.find fn = some e
theorem exFact_run {P : Program} {g : FuncId} {e : Array Value → Sem Value} (h : exFact P g e) {args : Array Value} {w : World} {v : Value} (hv : (e args).run P w = .ok v w) : (callFunc g args).run P w = .ok (.value v) w := by
  obtain ⟨fn, h1, h2, h3, h4, h5⟩ := h
  have h4' : Extern.findNext fn = none := by simpa using h4
  simp only [callFunc, Sem.run_bind, run_program, Result.andThen_ok, h1, h2, h3, h4', h5]
  simp [mark, Sem.run, hv, Result.andThen]
theorem exTab_ok {P : Program} {t : ExTab} (h : ∀ x ∈ t, exFact P x.1 x.2) : ExOk P (exTabE t) := by
  intro g as H c a he hc E Ht vs hs hh hvs
  unfold exTabE at he
  split at he
  · rename_i g' e us hf hu
    split at he
    · rename_i v hp
      simp only [Option.some.injEq, Prod.mk.injEq] at he
      obtain ⟨_, rfl⟩ := he
      have hm := List.mem_of_find?_eq_some hf
      have hg0 := List.find?_some hf
      have hg : g' = g := Nat.eq_of_beq_eq_true hg0
      subst hg
      have hargs : vs.toList = us := toVals_ok hu (by simpa using hvs.1) fun j b y hb hy => hvs.2 j b y hb (by simpa using hy)
      refine ⟨v, exFact_run (h _ hm) (w := E.w) ?_, avCell_ok P E v⟩
      have hv : vs = us.toArray := by rw [← hargs]
      rw [hv]
      show (e us.toArray).run P E.w = _
      rw [hp]
      rfl
    · cases he
  · cases he

/-! ### 32. Contracts laid in front of the evaluation -/
/-- Plain data: no place in memory. -/
def plain1B : AV → Bool
  | .int .. | .bool _ | .str _ | .nilp | .emp => true
  | _ => false
def plainB : AV → Bool
  | .agg cs => cs.all plain1B
  | .tup cs => cs.all plain1B
  | a => plain1B a
theorem plain1B_cv {P : Program} {E E' : En} {a : AV} {v : Value} (h : plain1B a = true) (hc : Cv P E a v) : Cv P E' a v := by
  cases hc <;> simp only [plain1B, Bool.false_eq_true] at h
  · exact .int _ _
  · exact .bool _
  · exact .str _
  · exact .emp
  · exact .nilp
theorem plainB_cv {P : Program} {E E' : En} {a : AV} {v : Value} (h : plainB a = true) (hc : Cv P E a v) : Cv P E' a v := by
  cases a with
  | agg cs =>
    cases hc with
    | agg q1 q2 => exact .agg q1 fun j a v ha hv => plain1B_cv (List.all_eq_true.1 h a (List.mem_of_getElem? ha)) (q2 j a v ha hv)
  | tup cs =>
    cases hc with
    | tup q1 q2 => exact .tup q1 fun j a v ha hv => plain1B_cv (List.all_eq_true.1 h a (List.mem_of_getElem? ha)) (q2 j a v ha hv)
  | _ => exact plain1B_cv h hc
theorem plainB_adoptL : ∀ {cs : List AV} (k : Nat), cs.all plain1B = true → adoptL k cs = (cs, [])
  | [], _, _ => rfl
  | a :: cs, k, h => by
    simp only [List.all_cons, Bool.and_eq_true] at h
    have ih := plainB_adoptL k h.2
    cases a <;> simp only [plain1B, Bool.false_eq_true] at h <;> first | (simp only [adoptL, ih]; done) | (exact h.1.elim)
theorem plainB_adopt {a : AV} (k : Nat) (h : plainB a = true) : adopt k a = (a, []) := by
  cases a with
  | tup cs => simp only [adopt, plainB_adoptL k h]
  | fr => cases h
  | _ => rfl

theorem calls_of_fn {P : Program} {g : FuncId} {w : World} {R : Value → World → Prop} {vs us args : Array Value} (hcb : callB P g = true) (h : CallRes P (.func (.func g) vs us) args w R) :
    Calls P g (vs ++ args ++ us) w fun e w' => ∃ v, e = .returned v ∧ R v w' := by
  have hrun : (callSem (.func (.func g) vs us) args).run P w = .ok (.enter g (vs ++ args ++ us)) w := by
    unfold callB at hcb
    split at hcb
    · rename_i fnn hfn
      simp only [Bool.and_eq_true, Bool.not_eq_true'] at hcb
      obtain ⟨d1, d2⟩ := hcb
      have d3 : fnn.body.isNone = false := by cases hb : fnn.body <;> simp_all
      simp [callSem, Deferred.ofValue, invoke, callFunc, hfn, d1, d3, Result.andThen]
      rw [if_neg (by simpa using d1), if_neg (by intro e; rw [e] at d2; cases d2)]
    · cases hcb
  unfold CallRes at h
  rw [hrun] at h
  exact h
theorem fn_of_calls {P : Program} {g : FuncId} {w : World} {R : Value → World → Prop} {vs us args : Array Value} (hcb : callB P g = true) (h : Calls P g (vs ++ args ++ us) w fun e w' => ∃ v, e = .returned v ∧ R v w') :
    CallRes P (.func (.func g) vs us) args w R := by
  have hrun : (callSem (.func (.func g) vs us) args).run P w = .ok (.enter g (vs ++ args ++ us)) w := by
    unfold callB at hcb
    split at hcb
    · rename_i fnn hfn
      simp only [Bool.and_eq_true, Bool.not_eq_true'] at hcb
      obtain ⟨d1, d2⟩ := hcb
      have d3 : fnn.body.isNone = false := by cases hb : fnn.body <;> simp_all
      simp [callSem, Deferred.ofValue, invoke, callFunc, hfn, d1, d3, Result.andThen]
      rw [if_neg (by simpa using d1), if_neg (by intro e; rw [e] at d2; cases d2)]
    · cases hcb
  unfold CallRes
  rw [hrun]
  exact h

/-- A run over an empty memory, at arguments as a callee sees them. -/
def runP (P : Program) (cd : CallD) (g : FuncId) (as : List AV) : Option AV :=
  bif callB P g then (match cd (.fn (.func g) [] []) as .leaf 0 with
    | some (a, _, _) => bif plainB a then some a else none
    | none => none) else none
theorem runP_ok {P : Program} {cd : CallD} (hcd : CdOk P cd) {g : FuncId} {as : List AV} {a : AV} (h : runP P cd g as = some a) : plainB a = true ∧ PureA P g as a := by
  unfold runP at h
  obtain ⟨hcb, h⟩ := bif_some h
  split at h
  · rename_i a' H' nx' he
    obtain ⟨hp, h⟩ := bif_some h
    cases h
    refine ⟨hp, hcb, fun w M vs hM hl hvs => ?_⟩
    have hle : (En.call w M).le ((⟨M, w.heap.size, noHp, nx'⟩ : Fix).en (fun _ => False) (fun _ => 0) (Tr.leaf : Tr Blk).get w) := by
      refine ⟨fun g o hM hg => hg, fun g hg hM' => ?_, fun _ h => (show False from h).elim, fun _ h => h, Nat.le_refl _, fun g cs t hg => ⟨cs, hg, rfl⟩, Nat.le_refl _⟩
      rcases hM' with h | ⟨i, b, hi, _⟩
      · exact h
      · simp [ov, noHp, Tr.get] at hi
    have hc := (hcd _ _ _ _ _ _ _ he ⟨M, w.heap.size, noHp, nx'⟩ (Nat.le_refl _)).2 (fun _ => False) (fun _ => 0) w (.func (.func g) #[] #[]) vs
      ⟨⟨fun i b hi => by simp [ov, noHp, Tr.get] at hi, fun i j b c hi => by simp [ov, noHp, Tr.get] at hi⟩, fun _ _ _ h => h, Nat.le_refl _, hM, fun k b hk => by simp [noHp] at hk⟩
      (.fn rfl rfl (fun j a v ha => by simp at ha) (fun j a v ha => by simp at ha))
      ⟨hl, fun j x v hx hv => (hvs j x v hx hv).mono hle⟩
    have := calls_of_fn hcb hc
    simp only [Array.empty_append, Array.append_empty] at this
    refine this.mono ?_
    rintro e w' ⟨v, rfl, D', β', hm, hpg, hcv⟩
    refine ⟨v, rfl, ⟨hpg.fr.os, hpg.fr.tape, hpg.fr.output, hpg.fr.size, fun k hk => hpg.fr.block k hk fun i b hi => by simp [ov, noHp, Tr.get] at hi⟩, fun k => ?_⟩
    unfold ResOk
    rw [plainB_adopt k hp]
    exact ⟨by simp, fun _ => 0, fun j hj => by simp at hj, fun i j hi => by simp at hi, fun j b hb => by simp at hb, plainB_cv hp hcv⟩
  · cases h

/-- The memory stays what it is while what lay there lies. -/
theorem Mem.below {P : Program} {X : Fix} {D : Nat → Prop} {β : Nat → Nat} {H : Tr Blk} {nx : Nat} {w w' : World} (h : Mem P X D β H nx w) (hb : Below w.heap.size w w') :
    Mem P X D β H nx w' ∧ Pg X.N X.B D β (ov H.get X.G) w nx D β (ov H.get X.G) w' nx := by
  have hle : (En.mk' w β X.N (ov H.get X.G) X.B D).le (En.mk' w' β X.N (ov H.get X.G) X.B D) :=
    ⟨fun g o _ hg => (hb.block g (lt_of_heap hg)).trans hg, fun g _ hM => hM, fun _ _ => rfl, fun _ h => h, Nat.le_refl _, fun g cs t hg => ⟨cs, (hb.block g (lt_of_heap hg)).trans hg, rfl⟩, hb.size⟩
  refine ⟨⟨⟨fun i b hi => ?_, h.hp.inj⟩, h.fresh, Nat.le_trans h.size hb.size, h.low, h.apart⟩, ⟨hle, ⟨hb.os, hb.tape, hb.output, hb.size, fun k hk _ => hb.block k hk⟩, fun _ hj => .inl hj, Nat.le_refl _⟩⟩
  obtain ⟨q1, q2, q3, q4⟩ := h.hp.blk i b hi
  exact ⟨q1, q2, q3, q4.mono hle (hb.block _ (h.hp.lt hi))⟩

def vwOkB : Nat → Hp → AV → Bool
  | 0, _, _ => true
  | _ + 1, H, .own id _ off n => (match H id with
    | some (.arr _ _ m _) => Nat.ble (off + n) m
    | _ => true)
  | d + 1, H, .ptr id off => (match H id with
    | some (.box _ cs) => Nat.ble off cs.length && (cs.drop off).all (vwOkB d H)
    | _ => true)
  | d + 1, H, .agg cs => cs.all (vwOkB d H)
  | d + 1, H, .tup cs => cs.all (vwOkB d H)
  | d + 1, H, .fn _ a b => a.all (vwOkB d H) && b.all (vwOkB d H)
  | _ + 1, _, _ => true
theorem allP_of {f : AV → Prop} {g : AV → Bool} (h : ∀ a, g a = true → f a) : ∀ {l : List AV}, l.all g = true → allP f l
  | [], _ => trivial
  | a :: l, hl => by simp only [List.all_cons, Bool.and_eq_true] at hl; exact ⟨h a hl.1, allP_of h hl.2⟩
theorem vwOkB_ok : ∀ (d : Nat) (H : Hp) (a : AV), vwOkB d H a = true → vwOk d H a := by
  intro d
  induction d with
  | zero => intro H a _; trivial
  | succ d ih =>
    intro H a h
    cases a <;> try trivial
    case own id sz off n =>
      simp only [vwOkB] at h
      simp only [vwOk]
      split
      · rename_i hi; rw [hi] at h; exact Nat.le_of_ble_eq_true h
      · trivial
    case ptr id off =>
      simp only [vwOkB] at h
      simp only [vwOk]
      split
      · rename_i hi; rw [hi] at h
        simp only [Bool.and_eq_true] at h
        exact ⟨Nat.le_of_ble_eq_true h.1, allP_of (ih H) h.2⟩
      · trivial
    case fn f a b =>
      simp only [vwOkB, Bool.and_eq_true] at h
      exact ⟨allP_of (ih H) h.1, allP_of (ih H) h.2⟩
    case agg cs => exact allP_of (ih H) h
    case tup cs => exact allP_of (ih H) h

/-- A table of answers. -/
abbrev PTab := FuncId → List AV → Option AV
def PtOk (P : Program) (pt : PTab) : Prop := ∀ g as a, pt g as = some a → plainB a = true ∧ PureA P g as a
def ptCd (pt : PTab) : CallD := fun f args H nx => match f with
  | .fn (.func g) first cap =>
    let as := first ++ (args ++ cap)
    bif as.all (vwOkB 6 H.get) then (pt g (as.map (vw 6 H.get))).map fun a => (a, H, nx) else none
  | _ => none
theorem argsOk_all {P : Program} {E : En} {first cap args : List AV} {va us vs : Array Value} (p1 : va.size = first.length) (p2 : us.size = cap.length)
    (p3 : ∀ (j : Nat) (a : AV) (v : Value), first[j]? = some a → (va[j]? : Option Value) = some v → Cv P E a v) (p4 : ∀ (j : Nat) (a : AV) (v : Value), cap[j]? = some a → (us[j]? : Option Value) = some v → Cv P E a v)
    (hvs : argsOk P E args vs) : argsOk P E (first ++ (args ++ cap)) (va ++ vs ++ us) := by
  refine ⟨by simp [p1, p2, hvs.1], fun j a v ha hv => ?_⟩
  rw [Array.getElem?_append] at hv
  simp only [Array.size_append] at hv
  by_cases hj1 : j < va.size + vs.size
  · rw [if_pos hj1, Array.getElem?_append] at hv
    by_cases hj2 : j < va.size
    · rw [if_pos hj2] at hv
      rw [List.getElem?_append_left (by omega)] at ha
      exact p3 j a v ha hv
    · rw [if_neg hj2] at hv
      rw [List.getElem?_append_right (by omega), List.getElem?_append_left (by have := hvs.1; omega)] at ha
      rw [p1] at hv
      exact hvs.2 _ a v ha hv
  · rw [if_neg hj1] at hv
    rw [List.getElem?_append_right (by omega), List.getElem?_append_right (by have := hvs.1; omega)] at ha
    refine p4 _ a v ha ?_
    rw [← hv]
    congr 1
    have := hvs.1
    omega
theorem ptCd_ok {P : Program} {pt : PTab} (hpt : PtOk P pt) : CdOk P (ptCd pt) := by
  intro f args H nx a H' nx' he X hX
  unfold ptCd at he
  split at he
  case h_2 => cases he
  rename_i g first cap
  obtain ⟨hok, he⟩ := bif_some he
  obtain ⟨b, hb, he⟩ := map_some he
  simp only [Prod.mk.injEq] at he
  obtain ⟨rfl, rfl, rfl⟩ := he
  obtain ⟨hp, hcb, hpure⟩ := hpt _ _ _ hb
  refine ⟨Nat.le_refl _, fun D β w fv vs hm hf hvs => ?_⟩
  cases hf with
  | @fn _ _ _ va us p1 p2 p3 p4 =>
    have hall := argsOk_all p1 p2 p3 p4 hvs
    refine fn_of_calls hcb ((hpure w X.N (va ++ vs ++ us) (fun g hg => Nat.lt_of_lt_of_le (hm.low g hg) hm.size) (by simpa using hall.1) (fun j x v hx hv => ?_)).mono ?_)
    · obtain ⟨y, hy, rfl⟩ := map_get hx
      exact vw_ok (Hr := H.get) hm.hp hm.low (ov_sub _ _) 6 y v (vwOkB_ok 6 _ _ (List.all_eq_true.1 hok y (List.mem_of_getElem? hy))) (hall.2 j y v hy hv)
    · rintro e w' ⟨v, rfl, hbel, hres⟩
      obtain ⟨h1, h2⟩ := hm.below hbel
      obtain ⟨_, γ, _, _, _, hcv⟩ := hres 0
      rw [plainB_adopt 0 hp] at hcv
      exact ⟨v, rfl, D, β, h1, h2, plainB_cv hp hcv⟩

/-- Contracts first. -/
def frontD (c cd : CallD) : CallD := fun g as H nx => match c g as H nx with
  | some r => some r
  | none => cd g as H nx
theorem frontD_ok {P : Program} {c cd : CallD} (hc : CdOk P c) (hd : CdOk P cd) : CdOk P (frontD c cd) := by
  intro g args H nx a H' nx' he
  unfold frontD at he
  split at he
  · rename_i r hr
    cases he
    exact hc g args H nx a H' nx' hr
  · exact hd g args H nx a H' nx' he
def frontE {R : Type} (c : CallD) (cl : CallE R) : CallE R := fun g as H nx K => match c g as H nx with
  | some (a, H', nx') => K a H' nx'
  | none => cl g as H nx K
theorem frontE_ok {P : Program} {R : Type} {holds : R → Prop} {c : CallD} {cl : CallE R} (hc : CdOk P c) (hl : ClOk P holds cl) : ClOk P holds (frontE c cl) := by
  intro g args H nx K h X hK
  unfold frontE at h
  split at h
  · rename_i a H' nx' hr
    obtain ⟨q1, q2⟩ := hc g args H nx a H' nx' hr X (hK _ _ _ h)
    exact ⟨Nat.le_trans q1 (hK _ _ _ h), fun D β w fv vs hm hf hv => (q2 D β w fv vs hm hf hv).mono fun v w' ha => ⟨a, H', nx', h, ha⟩⟩
  · exact hl g args H nx K h X hK

/-- The evaluation over contracts. -/
def fnC (P : Program) (ex : ExE) (c : CallD) (m : Nat) : Nat → CallE (Option Ans)
  | 0 => fun _ _ _ _ _ => none
  | f + 1 => frontE c (callStep (optAlg Ans) P ex m (fnC P ex c m f) fun g as H nx => fnC P ex c m f g as H nx ansK)
theorem fnC_ok {P : Program} {ex : ExE} (hex : ExOk P ex) {c : CallD} (hc : CdOk P c) (m : Nat) (hmx : P.follows .mixedOrders = true) : ∀ f x, ClOk P (fun r => r = some x) (fnC P ex c m f)
  | 0, x => fun _ _ _ _ _ h => by cases h
  | f + 1, x => frontE_ok hc (callStep_ok (optAlg_ok x) hex (fnC_ok hex hc m hmx f x) (cd_of_cl (fnC_ok hex hc m hmx f)) hmx)
def cdC (P : Program) (ex : ExE) (c : CallD) (m f : Nat) : CallD := fun g as H nx => fnC P ex c m f g as H nx ansK
theorem cdC_ok {P : Program} {ex : ExE} (hex : ExOk P ex) {c : CallD} (hc : CdOk P c) (m f : Nat) (hmx : P.follows .mixedOrders = true) : CdOk P (cdC P ex c m f) := cd_of_cl (fnC_ok hex hc m hmx f)

/-! ### 33. maps.DeleteFunc over texts and numbers -/
/-- The walk of maps.DeleteFunc: the predicate is asked of entries alone. -/
def DelOk (P : Program) (gd : FuncId) (k e : TypeId) : Prop :=
  ∀ (pd : Lit → DataW Unit → Bool) (g : Nat) (cb : Array Value) (b n : Nat) (es0 : List (Lit × DataW Unit)) (w : World), (∀ args w, (callFunc g args).run P w = .ok (.enter g args) w) → w.ownsMap P k (plainElem P e) b n (.map es0) →
    (∀ (W : World) (key val : Value) (kl : Lit) (yd : DataW Unit) (yp : List MemPlace), w.grownBy W (some b) → keyOf P k key = some kl → plainElem P e val = some (yd, yp) → (kl, yd) ∈ es0 →
      Calls P g (#[key, val] ++ cb) W fun e w' => e = .returned (.bool (pd kl yd)) ∧ W.grownBy w' none) →
    Calls P gd #[.map (some b), .func (.func g) #[] cb] w fun e' w' => e' = .returned (.tuple #[]) ∧ w'.ownsMap P k (plainElem P e) b n (Lib.deleteFuncD pd (.map es0)) ∧ w.grownBy w' (some b)
def delP (pt : PTab) (g : FuncId) (cap' : List AV) : Lit → DataW Unit → Bool
  | .string bs, .lit (.int .i64 c) => (match pt g (.str ⟨⟨bs⟩⟩ :: .int .i64 c :: cap') with
    | some (.bool b) => b
    | _ => false)
  | _, _ => false
def delQ (pt : PTab) (g : FuncId) (cap' : List AV) : Lit × DataW Unit → Bool
  | (.string bs, .lit (.int .i64 c)) => (match pt g (.str ⟨⟨bs⟩⟩ :: .int .i64 c :: cap') with
    | some (.bool _) => true
    | _ => false)
  | _ => false
def delC (P : Program) (pt : PTab) (gd : FuncId) (k e : TypeId) : CallD := fun f args H nx => match f, args with
  | .fn (.func g') [] [], [.mp i, .fn (.func g) [] cap] => bif Nat.beq g' gd && callB P g then (match H.get i with
    | some (.smap k' e' n (.map es)) =>
      let Hr := upd H.get i none
      let cap' := cap.map (vw 6 Hr)
      bif Nat.beq k' k && (Nat.beq e' e && (cap.all (vwOkB 6 Hr) && es.all (delQ pt g cap'))) then some (.tup [], H.set i (some (.smap k e n (Lib.deleteFuncD (delP pt g cap') (.map es)))), nx + 4) else none
    | _ => none) else none
  | _, _ => none
theorem enters_callB {P : Program} {g : FuncId} (hcb : callB P g = true) (args : Array Value) (w : World) : (callFunc g args).run P w = .ok (.enter g args) w := by
  unfold callB at hcb
  split at hcb
  · rename_i fnn hfn
    simp only [Bool.and_eq_true, Bool.not_eq_true'] at hcb
    obtain ⟨d1, d2⟩ := hcb
    have d3 : fnn.body.isNone = false := by cases hb : fnn.body <;> simp_all
    simp [callFunc, hfn, d3, Result.andThen]
    rw [if_neg (by simpa using d1), if_neg (by intro e; rw [e] at d2; cases d2)]
  · cases hcb
/-- What others hold stays in view while one block that is no cells turns. -/
theorem view_turned {P : Program} {X : Fix} {D : Nat → Prop} {β : Nat → Nat} {H : Tr Blk} {nx i : Nat} {w W : World} {b0 : Blk} {o0 : Obj} (hm : Mem P X D β H nx w) (hi : H.get i = some b0) (hob : w.heap[β i]? = some o0) (hnc : ∀ cs t fz, o0 ≠ .cells cs t fz)
    (hg : w.grownBy W (some (β i))) {a : AV} {v : Value} (hok : vwOkB 6 (upd H.get i none) a = true) (hc : Cv P (X.en D β H.get w) a v) : Cv P (En.call W X.N) (vw 6 (upd H.get i none) a) v := by
  have hHi : ov H.get X.G i = some b0 := ov_sub _ _ _ _ hi
  obtain ⟨Hj, hHj⟩ : ∃ Hj : Hp, Hj = upd (ov H.get X.G) i (some .junk) := ⟨_, rfl⟩
  have fix : ∀ j b, Hj j = some b → ∃ b', ov H.get X.G j = some b' := fun j b hj => by
    by_cases e : j = i
    · subst e; exact ⟨_, hHi⟩
    · rw [hHj, upd_ne _ _ e] at hj; exact ⟨b, hj⟩
  have hle : (En.mk' w β X.N (ov H.get X.G) X.B D).le (En.mk' W β X.N Hj X.B D) := by
    refine ⟨fun g o hM hgo => ?_, fun g _ hM => ?_, fun _ _ => rfl, fun _ h => h, Nat.le_refl _, fun g cs t hgo => ?_, hg.size⟩
    · exact (hg.block g (lt_of_heap hgo) (fun e => hM (.inr ⟨i, _, hHi, (Option.some.inj e).symm⟩))).trans hgo
    · rcases hM with h | ⟨j, b, hj, hjb⟩
      · exact .inl h
      · obtain ⟨b', hb'⟩ := fix j b hj
        exact .inr ⟨j, b', hb', hjb⟩
    · refine ⟨cs, (hg.block g (lt_of_heap hgo) (fun e => ?_)).trans hgo, rfl⟩
      have e2 := Option.some.inj e
      simp only [En.mk'_w] at hgo
      rw [e2, hob] at hgo
      exact hnc _ _ _ (Option.some.inj hgo)
  have hpj : HpOk P (En.mk' W β X.N Hj X.B D) Hj := by
    refine ⟨fun j b hj => ?_, fun j l b c hj hl he => ?_⟩
    · by_cases e : j = i
      · subst e
        obtain ⟨s1, s2, s3, _⟩ := hm.hp.blk j _ hHi
        rw [hHj, upd_same] at hj
        cases hj
        refine ⟨s1, .inr ⟨j, .junk, by rw [hHj, upd_same], rfl⟩, s3, ?_⟩
        have : β j < W.heap.size := Nat.lt_of_lt_of_le (hm.hp.lt hHi) hg.size
        exact ⟨W.heap[β j], Array.getElem?_eq_getElem this⟩
      · have hj' := hj
        rw [hHj, upd_ne _ _ e] at hj
        obtain ⟨s1, s2, s3, s4⟩ := hm.hp.blk j b hj
        refine ⟨s1, .inr ⟨j, b, hj', rfl⟩, s3, s4.mono hle (hg.block _ (hm.hp.lt hj) (fun e2 => e (hm.hp.inj j i b _ hj hHi (Option.some.inj e2))))⟩
    · obtain ⟨b', hb'⟩ := fix j b hj
      obtain ⟨c', hc'⟩ := fix l c hl
      exact hm.hp.inj j l b' c' hb' hc' he
  have hsub : Sub (upd H.get i none) Hj := fun j b hj => by
    by_cases e : j = i
    · subst e; rw [upd_same] at hj; cases hj
    · rw [upd_ne _ _ e] at hj
      rw [hHj, upd_ne _ _ e]
      exact ov_sub _ _ _ _ hj
  exact vw_ok hpj hm.low hsub 6 a v (vwOkB_ok 6 _ _ hok) (hc.mono hle)
theorem delP_call {P : Program} {pt : PTab} {g : FuncId} {cap' : List AV} {es : List (Lit × DataW Unit)} (hpt : PtOk P pt) {k e : TypeId} (hk : P.underlying k = some .string) (he : P.underlying e = some (.int .i64)) (hq : es.all (delQ pt g cap') = true) {W : World} {N : Nat → Prop} (hN : ∀ g, N g → g < W.heap.size)
    {us : Array Value} (hl : us.size = cap'.length) (hcap : ∀ (j : Nat) (x : AV) (v : Value), cap'[j]? = some x → (us[j]? : Option Value) = some v → Cv P (En.call W N) x v) {key val : Value} {kl : Lit} {yd : DataW Unit} {yp : List MemPlace}
    (hkey : keyOf P k key = some kl) (hval : plainElem P e val = some (yd, yp)) (hmem : (kl, yd) ∈ es) :
    Calls P g (#[key, val] ++ us) W fun e w' => e = .returned (.bool (delP pt g cap' kl yd)) ∧ W.grownBy w' none := by
  obtain ⟨s, rfl, rfl, hs⟩ := Go.WideMaps.string_of_keyOf hk hkey
  obtain ⟨c, rfl, hz, _⟩ := plainElem_int_inv he hval
  simp only [Prod.mk.injEq] at hz
  obtain ⟨rfl, _⟩ := hz
  have hq := List.all_eq_true.1 hq _ hmem
  simp only [delQ] at hq
  split at hq
  case h_2 => cases hq
  rename_i b hb
  have hdp : delP pt g cap' (.string s.data.toList) (.lit (.int .i64 c)) = b := by simp only [delP, hb]
  rw [hdp]
  obtain ⟨hp, _, hpure⟩ := hpt _ _ _ hb
  have hcall := hpure W N (#[.string s, .int .i64 c] ++ us) hN (by simp [hl]; omega) (fun j x v hx hv => by
    rcases j with _ | _ | j
    · have e1 : x = .str s := (Option.some.inj hx).symm
      rw [Array.getElem?_append_left (by simp)] at hv
      have e2 : v = .string s := by simpa using hv.symm
      subst e1; subst e2; exact .str _
    · have e1 : x = .int .i64 c := (Option.some.inj hx).symm
      rw [Array.getElem?_append_left (by simp)] at hv
      have e2 : v = .int .i64 c := by simpa using hv.symm
      subst e1; subst e2; exact .int _ _
    · simp only [List.getElem?_cons_succ] at hx
      rw [Array.getElem?_append_right (by simp)] at hv
      exact hcap j x v hx (by simpa using hv))
  refine hcall.mono ?_
  rintro e2 w2 ⟨v, rfl, hbel, hres⟩
  obtain ⟨_, γ, _, _, _, hcv⟩ := hres 0
  rw [plainB_adopt 0 hp] at hcv
  have : v = .bool b := by
    generalize v = q at hcv
    cases hcv
    rfl
  subst this
  exact ⟨rfl, hbel.os, hbel.tape, hbel.output, hbel.size, fun j hj _ => hbel.block j hj⟩
theorem delC_ok {P : Program} {pt : PTab} {gd : FuncId} {k e : TypeId} (hpt : PtOk P pt) (hd : DelOk P gd k e) (hgd : callB P gd = true) (hk : P.underlying k = some .string) (he : P.underlying e = some (.int .i64)) : CdOk P (delC P pt gd k e) := by
  intro f args H nx a H' nx' hr X hX
  unfold delC at hr
  split at hr
  case h_2 => cases hr
  rename_i g' i g cap
  obtain ⟨h1, hr2⟩ := bif_some hr
  clear hr
  simp only [Bool.and_eq_true] at h1
  obtain ⟨h1, hcb⟩ := h1
  obtain rfl := Nat.eq_of_beq_eq_true h1
  split at hr2
  case h_2 => cases hr2
  rename_i k' e' n es hi
  obtain ⟨h2, hr3⟩ := bif_some hr2
  clear hr2
  simp only [Bool.and_eq_true] at h2
  obtain ⟨q1, q2, q3, q4⟩ := h2
  obtain rfl := Nat.eq_of_beq_eq_true q1
  obtain rfl := Nat.eq_of_beq_eq_true q2
  simp only [Option.some.injEq, Prod.mk.injEq] at hr3
  obtain ⟨rfl, rfl, rfl⟩ := hr3
  refine ⟨by omega, fun D β w fv vs hm hf hvs => ?_⟩
  cases hf with
  | @fn _ _ _ va us p1 p2 p3 p4 =>
    obtain rfl : va = #[] := Array.eq_empty_of_size_eq_zero p1
    obtain rfl : us = #[] := Array.eq_empty_of_size_eq_zero p2
    refine fn_of_calls hgd ?_
    simp only [Array.empty_append, Array.append_empty]
    obtain ⟨hl, hc⟩ := hvs
    obtain ⟨v0, v1, rfl⟩ : ∃ v0 v1, vs = #[v0, v1] := by
      obtain ⟨l⟩ := vs
      match l, hl with
      | [x, y], _ => exact ⟨x, y, rfl⟩
    have c0 := hc 0 _ v0 rfl rfl
    have c1 := hc 1 _ v1 rfl rfl
    have e0 : v0 = .map (some (β i)) := by cases c0; rfl
    subst e0
    cases c1 with
    | @fn _ _ _ va us r1 r2 r3 r4 =>
      obtain rfl : va = #[] := Array.eq_empty_of_size_eq_zero r1
      have hHi : ov H.get X.G i = some (.smap k' e' n (.map es)) := ov_sub _ _ _ _ hi
      have hown : w.ownsMap P k' (plainElem P e') (β i) n (.map es) := (hm.hp.blk i _ hHi).2.2.2
      have hltw : β i < w.heap.size := hm.hp.lt hHi
      obtain ⟨es1, clock, hob, _⟩ := hown
      have hown : w.ownsMap P k' (plainElem P e') (β i) n (.map es) := (hm.hp.blk i _ hHi).2.2.2
      refine (hd (delP pt g (cap.map (vw 6 (upd H.get i none)))) g us (β i) n es w (enters_callB hcb) hown (fun W key val kl yd yp hg hkey hval hmem => ?_)).mono ?_
      · exact delP_call hpt hk he q4 (fun g hgN => Nat.lt_of_lt_of_le (Nat.lt_of_lt_of_le (hm.low g hgN) hm.size) hg.size) (by simp [r2]) (fun j x v hx hv => by
          obtain ⟨y, hy, rfl⟩ := map_get hx
          exact view_turned hm hi hob (fun _ _ _ e => by cases e) hg (List.all_eq_true.1 q3 y (List.mem_of_getElem? hy)) (r4 j y v hy hv)) hkey hval hmem
      · rintro e2 w2 ⟨rfl, hown2, hgr⟩
        refine ⟨_, rfl, ?_⟩
        have hGi : X.G i = none := by
          cases hgi : X.G i with
          | none => rfl
          | some c => have := (hm.apart i c hgi).1; rw [hi] at this; cases this
        have hpost : Post P X.N X.B D β (ov H.get X.G) w nx (.tup []) (upd (ov H.get X.G) i (some (.smap k' e' n (Lib.deleteFuncD (delP pt g (cap.map (vw 6 (upd H.get i none)))) (.map es))))) (.tuple #[]) w2 :=
          Post.setX nx hm.hp hHi hob (fun _ _ _ e => by cases e) (fun j hj hne => hgr.block j hj (fun e => hne (Option.some.inj e))) hgr.size ⟨hgr.os, hgr.tape, hgr.output⟩ (fun E' hle hw => by
            show E'.w.ownsMap P k' (plainElem P e') (β i) n _
            rw [hw]; exact hown2) (fun E' hle => .tup rfl fun j a v ha => by simp at ha)
        rw [ov_upd hGi, ← Tr.set_hp] at hpost
        obtain ⟨β', hle, hh, hcv, hf⟩ := hpost
        refine ⟨Dn D nx, β', ⟨hh, fun j h1 h2 => ?_, Nat.le_trans hm.size hf.size, hm.low, fun q b hq => ?_⟩, ⟨hle, hf, fun j hj => hj, by omega⟩, hcv⟩
        · rintro (h3 | h3)
          · exact hm.fresh j (by omega) h2 h3
          · omega
        · obtain ⟨h1, h2⟩ := hm.apart q b hq
          refine ⟨?_, fun h3 => h2 ⟨by omega, h3.2⟩⟩
          rw [Tr.get_set, if_neg (fun e => by rw [e, hGi] at hq; cases hq)]
          exact h1

/-! ### 34. bytealg.Compare over rows of bytes -/
def rowOf (n : Nat) (get : Nat → List AV) : Option (List Int) := bif allB n fun i => isU8 (get i) then some ((List.range n).map fun i => byteOf (get i)) else none
def bytesRow (H : Hp) : AV → Option (List Int)
  | .emp => some []
  | .ro _ sz n get => bif Nat.beq sz 1 then rowOf n get else none
  | .own id sz off n => (match H id with
    | some (.arr _ sz' m get) => bif Nat.beq sz 1 && (Nat.beq sz' 1 && Nat.ble (off + n) m) then rowOf n fun i => get (off + i) else none
    | _ => none)
  | _ => none
theorem rowOf_ok {n : Nat} {get : Nat → List AV} {xs : List Int} (h : rowOf n get = some xs) : xs.length = n ∧ ∀ j x, xs[j]? = some x → j < n ∧ get j = [.int .u8 x] := by
  unfold rowOf at h
  obtain ⟨h1, h2⟩ := bif_some h
  cases h2
  refine ⟨by simp, fun j x hj => ?_⟩
  obtain ⟨i, hi, rfl⟩ := List.getElem?_eq_some_iff.1 hj
  simp only [List.length_map, List.length_range] at i
  obtain ⟨y, hy⟩ := isU8_ok (allB_ok h1 j i)
  refine ⟨i, ?_⟩
  simp only [List.getElem_map, List.getElem_range, hy, byteOf]
theorem bytesRow_ok {P : Program} {E : En} {H : Hp} (hh : HpOk P E H) {Hr : Hp} (hs : Sub Hr H) {a : AV} {v : Value} {xs : List Int} (h : bytesRow Hr a = some xs) (hc : Cv P E a v) :
    (Extern.Bytes.bytesOf v).run P E.w = .ok ⟨(Lib.bytesOf xs).toArray⟩ E.w := by
  have ld : ∀ (g o n c : Nat), xs.length = n → (∀ j x, xs[j]? = some x → E.w.cell? ⟨g, o + j, none⟩ = some (.int .u8 x)) → (Extern.Bytes.bytesOf (.slice (some ⟨g, o, none⟩) n c)).run P E.w = .ok ⟨(Lib.bytesOf xs).toArray⟩ E.w := fun g o n c hl hx => by
    have := Lib.run_loadBytesX (P := P) E.w xs ⟨g, o, none⟩ .empty (fun j x hj => by rw [addr_add]; exact hx j x hj)
    rw [hl] at this
    simp only [Extern.Bytes.bytesOf]
    rw [this]
    congr 1
    apply ByteArray.ext
    show (#[] : Array UInt8) ++ (Lib.bytesOf xs).toArray = (Lib.bytesOf xs).toArray
    simp
  cases a <;> simp only [bytesRow, reduceCtorEq] at h
  case emp =>
    cases hc
    cases h
    rfl
  case ro born sz n get =>
    obtain ⟨h1, h2⟩ := bif_some h
    obtain rfl := Nat.eq_of_beq_eq_true h1
    obtain ⟨h3, h4⟩ := rowOf_ok h2
    cases hc with
    | @ro _ _ _ _ A c val hcc hA hl hv hb =>
      by_cases hn : 0 < n
      · obtain ⟨g, o, rfl, _, _, hcell⟩ := hA hn
        refine ld g o n c h3 fun j x hj => ?_
        obtain ⟨hj1, hj2⟩ := h4 j x hj
        have h5 := hv j 0 (.int .u8 x) hj1 (by rw [hj2]; rfl)
        have h6 := hcell j 0 hj1 (by omega)
        generalize val j 0 = V at h5 h6
        cases h5
        simpa using h6
      · obtain rfl : n = 0 := by omega
        obtain rfl : xs = [] := List.eq_nil_of_length_eq_zero h3
        cases A with
        | none => rfl
        | some ad => obtain ⟨g, o, s⟩ := ad; rfl
  case own id sz off n =>
    split at h
    case h_2 => cases h
    rename_i e sz' m get hi
    obtain ⟨h1, h2⟩ := bif_some h
    simp only [Bool.and_eq_true] at h1
    obtain ⟨q1, q2, q3⟩ := h1
    obtain rfl := Nat.eq_of_beq_eq_true q1
    obtain rfl := Nat.eq_of_beq_eq_true q2
    have q3 := Nat.le_of_ble_eq_true q3
    obtain ⟨h3, h4⟩ := rowOf_ok h2
    obtain ⟨_, _, _, vs, g1, g2, g3, g4, _⟩ := hh.blk id _ (hs _ _ hi)
    cases hc with
    | own hD hcc hA hss hm =>
      obtain ⟨o, rfl, ho⟩ := hA
      refine ld _ o n _ h3 fun j x hj => ?_
      obtain ⟨hj1, hj2⟩ := h4 j x hj
      have hlt : off + j < vs.size := by omega
      have h5 := g4 (off + j) 0 (.int .u8 x) (vs.getD (off + j) undef) (by omega) (by rw [hj2]; rfl) (by rw [Nat.mul_one, Nat.add_zero]; exact getD_row hlt)
      have h6 := getD_row hlt
      generalize vs.getD (off + j) undef = V at h5 h6
      cases h5
      rw [ho (.inl (by omega)), Nat.mul_one]
      exact obj_cell g1 h6
def cmpE (cg : FuncId) : ExE := fun g as H => bif Nat.beq g cg then (match as with
  | [x, y] => (match bytesRow H x, bytesRow H y with
    | some a, some b => some (true, .int .i64 (Lib.compareBytes (Lib.bytesOf a) (Lib.bytesOf b)))
    | _, _ => none)
  | _ => none) else none
theorem cmpE_ok {P : Program} {cg : FuncId} (hf : exFact P cg Extern.BytealgCompare.compare) : ExOk P (cmpE cg) := by
  intro g as H c a he hc E Ht vs hs hh hvs
  unfold cmpE at he
  obtain ⟨h1, h2⟩ := bif_some he
  obtain rfl := Nat.eq_of_beq_eq_true h1
  split at h2
  case h_2 => cases h2
  rename_i x y
  split at h2
  case h_2 => cases h2
  rename_i xa xb ha hb
  simp only [Option.some.injEq, Prod.mk.injEq] at h2
  obtain ⟨_, rfl⟩ := h2
  obtain ⟨hl, hc⟩ := hvs
  obtain ⟨v0, v1, rfl⟩ : ∃ v0 v1, vs = #[v0, v1] := by
    obtain ⟨l⟩ := vs
    match l, hl with
    | [x, y], _ => exact ⟨x, y, rfl⟩
  have r0 := bytesRow_ok hh hs ha (hc 0 _ v0 rfl rfl)
  have r1 := bytesRow_ok hh hs hb (hc 1 _ v1 rfl rfl)
  refine ⟨.int .i64 (Lib.compareBytes (Lib.bytesOf xa) (Lib.bytesOf xb)), exFact_run hf ?_, .int _ _⟩
  change Sem.run P (do pure (goInt (Extern.BytealgCompare.cmp (← Extern.Bytes.bytesOf v0) (← Extern.Bytes.bytesOf v1)))) E.w = _
  simp only [Sem.run_bind, r0, r1, Result.andThen, Sem.run_pure]
  rw [Lib.cmp_eq]
  rfl
def orE (a b : ExE) : ExE := fun g as H => match a g as H with
  | some r => some r
  | none => b g as H
theorem orE_ok {P : Program} {a b : ExE} (ha : ExOk P a) (hb : ExOk P b) : ExOk P (orE a b) := by
  intro g as H c r he
  unfold orE at he
  split at he
  · rename_i q hq; cases he; exact ha g as H c r hq
  · exact hb g as H c r he

/-! ### 35. Calls at texts, kept -/
def strKey : List AV → Option (List (List UInt8))
  | [] => some []
  | .str s :: as => (strKey as).map fun l => s.data.toList :: l
  | _ => none
def keyStr (l : List (List UInt8)) : List AV := l.map fun x => .str ⟨⟨x⟩⟩
theorem strKey_ok : ∀ {as : List AV} {l : List (List UInt8)}, strKey as = some l → as = keyStr l
  | [], l, h => by cases h; rfl
  | a :: as, l, h => by
    cases a <;> simp only [strKey, reduceCtorEq] at h
    obtain ⟨r, h1, rfl⟩ := map_some h
    rw [strKey_ok h1]
    rfl
def eqL : List UInt8 → List UInt8 → Bool
  | [], [] => true
  | a :: as, b :: bs => bif Nat.beq a.toNat b.toNat then eqL as bs else false
  | _, _ => false
theorem eqL_ok : ∀ {a b : List UInt8}, eqL a b = true → a = b
  | [], [], _ => rfl
  | [], _ :: _, h => by cases h
  | _ :: _, [], h => by cases h
  | a :: as, b :: bs, h => by
    simp only [eqL] at h
    obtain ⟨h1, h2⟩ := (show Nat.beq a.toNat b.toNat = true ∧ eqL as bs = true by
      cases hb : Nat.beq a.toNat b.toNat with
      | true => rw [hb] at h; exact ⟨rfl, h⟩
      | false => rw [hb] at h; cases h)
    rw [eqL_ok h2, UInt8.toNat_inj.1 (Nat.eq_of_beq_eq_true h1)]
def eqLL : List (List UInt8) → List (List UInt8) → Bool
  | [], [] => true
  | a :: as, b :: bs => bif eqL a b then eqLL as bs else false
  | _, _ => false
theorem eqLL_ok : ∀ {a b : List (List UInt8)}, eqLL a b = true → a = b
  | [], [], _ => rfl
  | [], _ :: _, h => by cases h
  | _ :: _, [], h => by cases h
  | a :: as, b :: bs, h => by
    simp only [eqLL] at h
    obtain ⟨h1, h2⟩ := (show eqL a b = true ∧ eqLL as bs = true by
      cases hb : eqL a b with
      | true => rw [hb] at h; exact ⟨rfl, h⟩
      | false => rw [hb] at h; cases h)
    rw [eqL_ok h1, eqLL_ok h2]
abbrev Memo := List (FuncId × List (List UInt8) × AV)
def memoGet : Memo → FuncId → List AV → Option AV
  | [], _, _ => none
  | (g', k', a) :: t, g, as => bif Nat.beq g' g then (match strKey as with
      | some k => bif eqLL k' k then some a else memoGet t g as
      | none => none) else memoGet t g as
theorem memoGet_mem : ∀ {t : Memo} {g : FuncId} {as : List AV} {a : AV}, memoGet t g as = some a → ∃ k, (g, k, a) ∈ t ∧ as = keyStr k
  | [], _, _, _, h => by cases h
  | (g', k', a') :: t, g, as, a, h => by
    simp only [memoGet] at h
    cases hb : Nat.beq g' g with
    | false =>
      rw [hb] at h
      obtain ⟨k, h1, h2⟩ := memoGet_mem (t := t) h
      exact ⟨k, List.mem_cons_of_mem _ h1, h2⟩
    | true =>
      rw [hb] at h
      simp only [cond_true] at h
      split at h
      · rename_i k hk
        cases hc : eqLL k' k with
        | false =>
          rw [hc] at h
          obtain ⟨k2, h1, h2⟩ := memoGet_mem (t := t) h
          exact ⟨k2, List.mem_cons_of_mem _ h1, h2⟩
        | true =>
          rw [hc] at h
          simp only [cond_true, Option.some.injEq] at h
          subst h
          obtain rfl := eqLL_ok hc
          obtain rfl := Nat.eq_of_beq_eq_true hb
          exact ⟨k', List.mem_cons_self .., strKey_ok hk⟩
      · cases h
/-- One entry, by a run. -/
def MemoRun (P : Program) (x : FuncId × List (List UInt8) × AV) : Prop := plainB x.2.2 = true ∧ PureA P x.1 (keyStr x.2.1) x.2.2
theorem memo_run {P : Program} {cd : CallD} (hcd : CdOk P cd) {g : FuncId} {k : List (List UInt8)} {a : AV} (h : runP P cd g (keyStr k) = some a) : MemoRun P (g, k, a) := runP_ok hcd h
theorem memo_ok {P : Program} {t : Memo} (h : ∀ x ∈ t, MemoRun P x) : PtOk P (memoGet t) := by
  intro g as a hg
  obtain ⟨k, h1, rfl⟩ := memoGet_mem hg
  exact h _ h1
theorem memo_nil {P : Program} : ∀ x ∈ ([] : Memo), MemoRun P x := fun x hx => by simp at hx
theorem memo_cons {P : Program} {x : FuncId × List (List UInt8) × AV} {t : Memo} (h1 : MemoRun P x) (h2 : ∀ x ∈ t, MemoRun P x) : ∀ y ∈ x :: t, MemoRun P y := fun y hy => by
  rcases List.mem_cons.1 hy with rfl | hy
  · exact h1
  · exact h2 y hy

/-! ### 36. Calls over the memory that they reach -/
def resD (cd : CallD) : CallD := fun g as H nx => match callRec cd g as ⟨.leaf, H, nx⟩ with
  | some (c, r) => bif c then some (r.a, Tr.app r.us H, r.hi) else none
  | none => none
theorem resD_ok {P : Program} {cd : CallD} (hcd : CdOk P cd) : CdOk P (resD cd) := by
  intro g as H nx a H' nx' he X hX
  unfold resD at he
  split at he
  case h_2 => cases he
  rename_i c r hr
  obtain ⟨hc, he2⟩ := bif_some he
  simp only [Option.some.injEq, Prod.mk.injEq] at he2
  obtain ⟨rfl, rfl, rfl⟩ := he2
  obtain ⟨q1, q2, q3, q4, q5⟩ := callRec_call hcd hr hc
  simp only at q2 q3
  rw [q3] at q4
  refine ⟨q4, fun D β w fv vs hm hg hv => ?_⟩
  have hG : ∀ u ∈ r.us, X.G u.1 = none := fun u hu => by
    cases hgu : X.G u.1 with
    | none => rfl
    | some b =>
      obtain ⟨h1, h2⟩ := hm.apart _ _ hgu
      rcases q2 u hu with ⟨_, h3⟩ | h3
      · exact absurd h1 h3
      · exact absurd ⟨by omega, by omega⟩ h2
  have := q5 X.N X.B D β w (ov H.get X.G) fv vs (fun k _ b hk => ov_sub _ _ _ _ hk) hm.hp (fun j h1 h2 => hm.fresh j (by omega) (by omega)) hm.size hm.low hg hv
  rw [ov_app hG, ← Tr.app_hp, q3] at this
  refine this.mono fun v w' ⟨β', hle, hh, hcv, hf⟩ => ⟨Dr D nx r.hi, β', ⟨hh, fun j h1 h2 => ?_, Nat.le_trans hm.size hf.size, hm.low, fun k b hk => ?_⟩, ⟨hle, hf, fun j hj => hj, q4⟩, hcv⟩
  · rintro (h3 | h3)
    · exact hm.fresh j (by omega) h2 h3
    · omega
  · obtain ⟨h1, h2⟩ := hm.apart k b hk
    refine ⟨?_, fun h3 => h2 ⟨by omega, h3.2⟩⟩
    rw [Tr.app_hp, appU_other (fun u hu e => by have := hG u hu; rw [e, hk] at this; cases this)]
    exact h1
def clOf {R : Type} (A : Alg R) (cd : CallD) : CallE R := fun g as H nx K => match cd g as H nx with
  | some (a, H', nx') => K a H' nx'
  | none => A.ff
theorem clOf_ok {P : Program} {R : Type} {A : Alg R} {holds : R → Prop} (hA : AlgOk A holds) {cd : CallD} (hcd : CdOk P cd) : ClOk P holds (clOf A cd) := by
  intro g args H nx K h X hK
  unfold clOf at h
  split at h
  · rename_i a H' nx' hr
    obtain ⟨q1, q2⟩ := hcd g args H nx a H' nx' hr X (hK _ _ _ h)
    exact ⟨Nat.le_trans q1 (hK _ _ _ h), fun D β w fv vs hm hf hv => (q2 D β w fv vs hm hf hv).mono fun v w' ha => ⟨a, H', nx', h, ha⟩⟩
  · exact absurd h hA.ff
def fnG (P : Program) (ex : ExE) (c : CallD) (m : Nat) : Nat → CallD
  | 0 => fun _ _ _ _ => none
  | f + 1 => fun g as H nx => match c g as H nx with
    | some r => some r
    | none => callStep (optAlg Ans) P ex m (clOf (optAlg Ans) (resD (fnG P ex c m f))) (fnG P ex c m f) g as H nx ansK
theorem fnG_ok {P : Program} {ex : ExE} (hex : ExOk P ex) {c : CallD} (hc : CdOk P c) (m : Nat) (hmx : P.follows .mixedOrders = true) : ∀ f, CdOk P (fnG P ex c m f)
  | 0 => fun _ _ _ _ _ _ _ h => by cases h
  | f + 1 => by
    have ih := fnG_ok hex hc m hmx f
    have h1 : CdOk P fun g as H nx => callStep (optAlg Ans) P ex m (clOf (optAlg Ans) (resD (fnG P ex c m f))) (fnG P ex c m f) g as H nx ansK :=
      cd_of_cl fun x => callStep_ok (optAlg_ok x) hex (clOf_ok (optAlg_ok x) (resD_ok ih)) ih hmx
    exact frontD_ok hc h1
end Go.E
