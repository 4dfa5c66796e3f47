/-
  The abstract evaluation: regions whose order is drawn.
-/
import Derived.Test.YtlcpcbaedpfemaaGreatDoorEb
set_option linter.unusedVariables false
set_option linter.unusedSimpArgs false
namespace Go.E
open Go.RowKit

/-! ### 24. The evaluation of a region whose order is drawn -/
def Tr.keys {α : Type} : Tr α → List Nat
  | .leaf => []
  | .node l v r => (match v with | some _ => [0] | none => []) ++ (l.keys.map (fun k => 2 * k + 1) ++ r.keys.map (fun k => 2 * k + 2))
theorem Tr.keys_mem {α : Type} : ∀ (t : Tr α) (k : Nat) (b : α), t.get k = some b → k ∈ t.keys
  | .leaf, k, b, h => by simp [Tr.get] at h
  | .node l v r, 0, b, h => by simp only [Tr.get] at h; subst h; simp [Tr.keys]
  | .node l v r, k + 1, b, h => by
    simp only [Tr.get] at h
    simp only [Tr.keys, List.mem_append, List.mem_map]
    cases hk : Nat.beq (k % 2) 0 with
    | true =>
      rw [hk] at h
      have := Nat.eq_of_beq_eq_true hk
      exact .inr (.inl ⟨k / 2, Tr.keys_mem l _ b h, by omega⟩)
    | false =>
      rw [hk] at h
      have : k % 2 ≠ 0 := fun e => by rw [e] at hk; cases hk
      exact .inr (.inr ⟨k / 2, Tr.keys_mem r _ b h, by omega⟩)
theorem Tr.mem_keys {α : Type} : ∀ (t : Tr α) (k : Nat), k ∈ t.keys → ∃ b, t.get k = some b
  | .leaf, k, h => by simp [Tr.keys] at h
  | .node l v r, k, h => by
    simp only [Tr.keys, List.mem_append, List.mem_map] at h
    rcases h with h | ⟨j, hj, rfl⟩ | ⟨j, hj, rfl⟩
    · cases v with
      | none => simp at h
      | some b => simp at h; subst h; exact ⟨b, rfl⟩
    · obtain ⟨b, hb⟩ := Tr.mem_keys l j hj
      refine ⟨b, ?_⟩
      simp only [Tr.get]
      rw [show Nat.beq (2 * j % 2) 0 = true by rw [show 2 * j % 2 = 0 by omega]; rfl, show 2 * j / 2 = j by omega]
      exact hb
    · obtain ⟨b, hb⟩ := Tr.mem_keys r j hj
      refine ⟨b, ?_⟩
      show (Tr.node l v r).get ((2 * j + 1) + 1) = _
      simp only [Tr.get]
      rw [show Nat.beq ((2 * j + 1) % 2) 0 = false by rw [show (2 * j + 1) % 2 = 1 by omega]; rfl, show (2 * j + 1) / 2 = j by omega]
      exact hb
def refs : Nat → AV → List Nat
  | 0, _ => []
  | _ + 1, .own id _ _ _ => [id]
  | _ + 1, .ptr id _ => [id]
  | _ + 1, .ept id _ _ _ => [id]
  | _ + 1, .yld id => [id]
  | _ + 1, .mp id => [id]
  | d + 1, .fn _ a b => a.flatMap (refs d) ++ b.flatMap (refs d)
  | d + 1, .agg cs => cs.flatMap (refs d)
  | d + 1, .tup cs => cs.flatMap (refs d)
  | _ + 1, _ => []
def blkRefs : Blk → List Nat
  | .box _ cs => cs.flatMap (refs 6)
  | .arr _ _ n get => (List.range n).flatMap fun i => (get i).flatMap (refs 6)
  | .sit .. => []
  | .map es _ => es.flatMap fun e => refs 6 e.1 ++ refs 6 e.2.1
  | .smap .. => []
  | .mit m _ _ _ => [m]
  | .loop _ _ _ env _ _ _ d => d :: env.keys.flatMap fun t => (match env.get t with | some a => refs 6 a | none => [])
  | .dfr => []
  | .junk => []
def reach : Nat → Hp → List Nat → List Nat → List Nat
  | 0, _, _, acc => acc
  | _ + 1, _, [], acc => acc
  | f + 1, H, i :: todo, acc => bif acc.any (Nat.beq i) then reach f H todo acc else match H i with
    | none => reach f H todo acc
    | some b => reach f H (blkRefs b ++ todo) (i :: acc)
def restrT (H : Hp) : List Nat → Tr Blk
  | [] => .leaf
  | i :: l => (restrT H l).set i (H i)
theorem restrT_get (H : Hp) : ∀ (l : List Nat) (k : Nat), (restrT H l).get k = if k ∈ l then H k else none
  | [], k => by simp [restrT, Tr.get]
  | i :: l, k => by
    simp only [restrT, Tr.get_set]
    by_cases e : k = i
    · subst e; simp
    · rw [if_neg e, restrT_get H l k]; simp [e]
def restrF (H : Hp) (F : List Nat) : Hp := fun k => bif F.any (Nat.beq k) then H k else none
theorem restrF_some {H : Hp} {F : List Nat} {k : Nat} {b : Blk} (h : restrF H F k = some b) : k ∈ F ∧ H k = some b := by
  unfold restrF at h
  obtain ⟨h1, h2⟩ := bif_some h
  obtain ⟨x, hx, he⟩ := List.any_eq_true.1 h1
  exact ⟨by rw [Nat.eq_of_beq_eq_true he]; exact hx, h2⟩
def setsU (l : List Nat) (f : Hp) : Upds := l.map fun k => (k, f k)
theorem setsU_app (f : Hp) : ∀ (l : List Nat) (H : Hp) (k : Nat), appU (setsU l f) H k = if k ∈ l then f k else H k
  | [], H, k => by simp [setsU, appU]
  | i :: l, H, k => by
    show appU (setsU l f) (upd H i (f i)) k = _
    rw [setsU_app f l _ k]
    by_cases hk : k ∈ l
    · simp [hk]
    · rw [if_neg hk]
      by_cases e : k = i
      · subst e; rw [upd_same]; simp
      · rw [upd_ne _ _ e]; simp [hk, e]

abbrev CallD := AV → List AV → Tr Blk → Nat → Option (AV × Tr Blk × Nat)
def CdOk (P : Program) (cd : CallD) : Prop := ∀ g args H nx a H' nx', cd g args H nx = some (a, H', nx') → ∀ X : Fix, nx' ≤ X.lim →
    nx ≤ nx' ∧ ∀ D β w fv vs, Mem P X D β H nx w → Cv P (X.en D β H.get w) g fv → argsOk P (X.en D β H.get w) args vs → CallRes P fv vs w (After P X D β H w nx a H' nx')

section
variable {R : Type} (A : Alg R) (P : Program) (cd : CallD)
def callRec (g : AV) (as : List AV) (st : St) : Option (Bool × Rec) :=
  let L := reach 4096 st.H.get (refs 6 g ++ as.flatMap (refs 6)) []
  match cd g as (restrT st.H.get L) st.nx with
  | some (a, T', nx') =>
    let us := setsU (L ++ reach 4096 T'.get (refs 6 a ++ L) []) T'.get
    some (L.all (fun k => (st.H.get k).isSome) && us.all (fun u => L.any (Nat.beq u.1) || (Nat.ble st.nx u.1 && Nat.blt u.1 nx')), ⟨true, a, L, us, st.nx, nx'⟩)
  | none => none
def ftp (o : Oper) (τ : Operand → AV) : List Nat := match clsOf o.op with
  | .p => (match o.op with
    | .convert .. => o.op.operands.toList.flatMap fun x => refs 3 (τ x)
    | _ => [])
  | _ => o.op.operands.toList.flatMap fun x => refs 3 (τ x)
def effRec (o : Oper) (st : St) : Option (Bool × Rec) :=
  let F := ftp o (St.τ st.env)
  match effD P (restrF st.H.get F) st.nx o (St.τ st.env) with
  | some (c, a, us) => some (c, ⟨true, a, F, us, st.nx, st.nx + 4⟩)
  | none => none
def opRec (o : Oper) (st : St) : Option (Bool × Rec) :=
  match o.op with
  | .call ⟨.value f, args, _⟩ => callRec cd (St.τ st.env f) (args.toList.map (St.τ st.env)) st
  | _ => effRec P o st
def regD (ops : Array Oper) : List Oper → List Rec → St → (St → R) → R
  | [], acc, st, K => A.req (dynB ops fun i => acc.reverse.getD i default) fun _ => K st
  | o :: l, acc, st, K => guardR A ops o st
      (fun st => match opRec P cd o st with
        | some (c, r) => A.req c fun _ => regD ops l (r :: acc) ⟨putE st.env o.dst r.a, Tr.app r.us st.H, r.hi⟩ K
        | none => A.ff)
      (fun st => regD ops l (⟨false, .raw undef, [], [], st.nx, st.nx⟩ :: acc) { st with env := putE st.env o.dst (.raw undef) } K)
end

def keyR (HL : Hp) (r : Rec) : Prop := ∀ u ∈ r.us, (u.1 ∈ r.F ∧ HL u.1 ≠ none) ∨ (r.lo ≤ u.1 ∧ u.1 < r.hi)
theorem effRec_ok {P : Program} {o : Oper} {st : St} {r : Rec} {c : Bool} (h : effRec P o st = some (c, r)) (hc : c = true) : r.run = true ∧ RecRun P o st.env.get st.H.get r ∧ keyR st.H.get r ∧ r.lo = st.nx ∧ r.lo ≤ r.hi := by
  unfold effRec at h
  simp only at h
  split at h
  · rename_i c' a us he
    simp only [Option.some.injEq, Prod.mk.injEq] at h
    obtain ⟨h1, rfl⟩ := h
    rw [hc] at h1
    refine ⟨rfl, fun N B D β w ρ Ht hF hh hfr hB hlow hρ => ?_, fun u hu => ?_, rfl, by simp⟩
    · have := effD_ok he h1 Ht (fun k b hk => by obtain ⟨h2, h3⟩ := restrF_some hk; exact hF k h2 b h3) N B D β w ρ hh (fun j h2 h3 => hfr j h2 h3) hB hlow (fun x hx => hρ x hx)
      exact this.mono fun v w' hp => hp
    · rcases effD_keys he h1 u hu with h2 | h2
      · cases hk : restrF st.H.get (ftp o (St.τ st.env)) u.1 with
        | none => exact absurd hk h2
        | some b => obtain ⟨h3, h4⟩ := restrF_some hk; exact .inl ⟨h3, by rw [h4]; simp⟩
      · exact .inr h2
  · cases h
theorem sub_restr (T : Tr Blk) (S : List Nat) : Sub (restrT T.get S).get T.get := fun k b hk => by
  rw [restrT_get] at hk
  split at hk
  · exact hk
  · cases hk
/-- Less is known of the memory. -/
theorem After.sub {P : Program} {X : Fix} {D : Nat → Prop} {β : Nat → Nat} {H T T2 : Tr Blk} {w w' : World} {nx nx' : Nat} {a : AV} {v : Value} (h : After P X D β H w nx a T nx' v w') (hs : Sub T2.get T.get) : After P X D β H w nx a T2 nx' v w' := by
  obtain ⟨D', β', hm, hp, hcv⟩ := h
  have hsub : Sub (ov T2.get X.G) (ov T.get X.G) := fun k b hk => by
    simp only [ov] at hk ⊢
    cases h2 : T2.get k with
    | some c' => rw [h2] at hk; simp only [Option.some.injEq] at hk; subst hk; rw [hs k c' h2]
    | none =>
      rw [h2] at hk
      simp only at hk
      rw [(hm.apart k b hk).1]
      exact hk
  have hle := le_sub (w := w') (β := β') (N := X.N) (B := X.B) (D := D') hsub
  refine ⟨D', β', ⟨hm.hp.sub hsub, hm.fresh, hm.size, hm.low, fun k b hk => ?_⟩, ⟨hp.le.trans hle, hp.fr, hp.dn, hp.nx⟩, hcv.mono hle⟩
  obtain ⟨h1, h2⟩ := hm.apart k b hk
  refine ⟨?_, h2⟩
  cases h3 : T2.get k with
  | none => rfl
  | some c => rw [hs k c h3] at h1; cases h1
theorem callRec_call {P : Program} {cd : CallD} (hcd : CdOk P cd) {st : St} {g : AV} {as : List AV}
    {r : Rec} {c : Bool} (h : callRec cd g as st = some (c, r)) (hc : c = true) : r.run = true ∧ keyR st.H.get r ∧ r.lo = st.nx ∧ r.lo ≤ r.hi ∧
    ∀ (N : Nat → Prop) (B : Nat) (D : Nat → Prop) (β : Nat → Nat) (w : World) (Ht : Hp) (fv : Value) (vs : Array Value), (∀ k ∈ r.F, ∀ b, st.H.get k = some b → Ht k = some b) → HpOk P (En.mk' w β N Ht B D) Ht →
      (∀ j, r.lo ≤ j → j < r.hi → ¬ D j) → B ≤ w.heap.size → (∀ g, N g → g < B) → Cv P (En.mk' w β N Ht B D) g fv → argsOk P (En.mk' w β N Ht B D) as vs →
      CallRes P fv vs w fun v w' => PostD P N B D β Ht w (Dr D r.lo r.hi) r.a (appU r.us Ht) v w' := by
  unfold callRec at h
  simp only at h
  generalize hL : reach 4096 st.H.get (refs 6 g ++ as.flatMap (refs 6)) [] = L at h
  split at h
  · rename_i a T0 nx' he
    generalize hS : reach 4096 T0.get (refs 6 a ++ L) [] = S at h
    simp only [Option.some.injEq, Prod.mk.injEq] at h
    obtain ⟨h1, rfl⟩ := h
    rw [hc] at h1
    simp only [Bool.and_eq_true] at h1
    obtain ⟨h1, h2⟩ := h1
    have hLs : ∀ k ∈ L, ∃ b, st.H.get k = some b := fun k hk => Option.isSome_iff_exists.1 (List.all_eq_true.1 h1 k hk)
    have hle := (hcd _ _ _ _ _ _ _ he ⟨fun _ => False, 0, noHp, nx'⟩ (Nat.le_refl _)).1
    refine ⟨rfl, fun u hu => ?_, rfl, hle, fun N B D β w Ht fv vs hF hh hfr hB hlow hg has => ?_⟩
    · have h3 := List.all_eq_true.1 h2 u hu
      simp only [Bool.or_eq_true, Bool.and_eq_true] at h3
      rcases h3 with h3 | h3
      · obtain ⟨x, hx, hxe⟩ := List.any_eq_true.1 h3
        rw [Nat.eq_of_beq_eq_true hxe]
        obtain ⟨b, hb⟩ := hLs x hx
        exact .inl ⟨hx, by rw [hb]; simp⟩
      · exact .inr ⟨Nat.le_of_ble_eq_true h3.1, by simpa [Nat.blt_eq] using h3.2⟩
    · simp only at hF hfr
      obtain ⟨G, hG⟩ : ∃ G : Hp, G = fun k => if k ∈ L then none else Ht k := ⟨_, rfl⟩
      have hov : ov (restrT st.H.get L).get G = Ht := by
        funext k
        simp only [ov, restrT_get, hG]
        by_cases hk : k ∈ L
        · obtain ⟨b, hb⟩ := hLs k hk
          simp only [if_pos hk, hb]
          exact (hF k hk b hb).symm
        · simp only [if_neg hk]
      have hmem : Mem P ⟨N, B, G, nx'⟩ D β (restrT st.H.get L) st.nx w := by
        refine ⟨?_, hfr, hB, hlow, fun k b hk => ?_⟩
        · show HpOk P (En.mk' w β N (ov _ G) B D) (ov _ G)
          rw [hov]; exact hh
        · rw [hG] at hk
          by_cases hkL : k ∈ L
          · simp only [if_pos hkL] at hk; cases hk
          · simp only [if_neg hkL] at hk
            exact ⟨by rw [restrT_get, if_neg hkL], fun h3 => hfr k h3.1 h3.2 (hh.blk k b hk).1⟩
      have hen : (⟨N, B, G, nx'⟩ : Fix).en D β (restrT st.H.get L).get w = En.mk' w β N Ht B D := by
        show En.mk' w β N (ov _ G) B D = _
        rw [hov]
      refine ((hcd _ _ _ _ _ _ _ he ⟨N, B, G, nx'⟩ (Nat.le_refl _)).2 D β w _ _ hmem (by rw [hen]; exact hg) (by rw [hen]; exact has)).mono ?_
      intro v w' haf
      obtain ⟨D', β', hm', hp, hcv⟩ := haf.sub (sub_restr T0 (L ++ S))
      obtain ⟨T', hT'⟩ : ∃ T', T' = restrT T0.get (L ++ S) := ⟨_, rfl⟩
      rw [← hT'] at hm' hp hcv
      have hov' : ov T'.get G = appU (setsU (L ++ S) T0.get) Ht := by
        funext k
        rw [setsU_app]
        simp only [ov, hG, hT', restrT_get]
        by_cases hk : k ∈ L ++ S
        · rw [if_pos hk, if_pos hk]
          cases hTk : T0.get k with
          | some b => rfl
          | none =>
            simp only []
            by_cases hkL : k ∈ L
            · rw [if_pos hkL]
            · rw [if_neg hkL]
              cases hHt : Ht k with
              | none => rfl
              | some b =>
                exfalso
                have h3 := List.all_eq_true.1 h2 (k, T0.get k) (List.mem_map.2 ⟨k, hk, rfl⟩)
                simp only [Bool.or_eq_true, Bool.and_eq_true] at h3
                rcases h3 with h3 | h3
                · obtain ⟨x, hx, hxe⟩ := List.any_eq_true.1 h3
                  rw [← Nat.eq_of_beq_eq_true hxe] at hx
                  exact hkL hx
                · exact hfr k (Nat.le_of_ble_eq_true h3.1) (by simpa [Nat.blt_eq] using h3.2) (hh.blk k b hHt).1
        · rw [if_neg hk, if_neg hk]
          have h3 : k ∉ L := fun h => hk (List.mem_append_left _ h)
          simp only [if_neg h3]
      have hle2 : (En.mk' w' β' N (ov T'.get G) B D').le (En.mk' w' β' N (ov T'.get G) B (Dr D st.nx nx')) := le_dom w' β' N _ B D' _ (fun i hi => hp.dn i hi)
      show PostD P N B D β Ht w (Dr D st.nx nx') a (appU (setsU (L ++ S) T0.get) Ht) v w'
      rw [← hov']
      have hple : (En.mk' w β N (ov (restrT st.H.get L).get G) B D).le (En.mk' w' β' N (ov T'.get G) B D') := hp.le
      have hpfr : Fr β (ov (restrT st.H.get L).get G) w w' := hp.fr
      rw [hov] at hple hpfr
      exact ⟨β', hple.trans hle2, hm'.hp.dom (fun i hi => hp.dn i hi), hcv.mono hle2, hpfr⟩
  · cases h
theorem callRec_ok {P : Program} {cd : CallD} (hcd : CdOk P cd) {o : Oper} {st : St} {f : Operand} {args : Array Operand} {ts : Array TypeId} (ho : o.op = .call ⟨.value f, args, ts⟩)
    {r : Rec} {c : Bool} (h : callRec cd (St.τ st.env f) (args.toList.map (St.τ st.env)) st = some (c, r)) (hc : c = true) : r.run = true ∧ RecRun P o st.env.get st.H.get r ∧ keyR st.H.get r ∧ r.lo = st.nx ∧ r.lo ≤ r.hi := by
  obtain ⟨q1, q2, q3, q4, q5⟩ := callRec_call hcd h hc
  refine ⟨q1, fun N B D β w ρ Ht hF hh hfr hB hlow hρ => ?_, q2, q3, q4⟩
  rw [ho] at hρ
  refine callRes_op ho (q5 N B D β w Ht _ _ hF hh hfr hB hlow (hρ f (by simp [Op.operands, Call.operands])) ⟨by simp, fun j a v ha hv => ?_⟩)
  obtain ⟨z, hz, rfl⟩ := map_get ha
  simp only [Array.getElem?_toList] at hz
  simp only [Array.getElem?_map, hz, Option.map_some, Option.some.injEq] at hv
  subst hv
  exact hρ z (by simp [Op.operands, Call.operands, Array.mem_of_getElem? hz])
theorem opRec_ok {P : Program} {cd : CallD} (hcd : CdOk P cd) {o : Oper} {st : St} {r : Rec} {c : Bool} (h : opRec P cd o st = some (c, r)) (hc : c = true) : r.run = true ∧ RecRun P o st.env.get st.H.get r ∧ keyR st.H.get r ∧ r.lo = st.nx ∧ r.lo ≤ r.hi := by
  unfold opRec at h
  split at h
  · rename_i f args ts ho
    exact callRec_ok hcd ho h hc
  · exact effRec_ok h hc
end Go.E
