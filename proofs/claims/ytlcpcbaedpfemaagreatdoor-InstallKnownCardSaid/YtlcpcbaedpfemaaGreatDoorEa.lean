/-
  An abstract evaluation of Go code: values, memory, operations.
-/
import Derived.WalkKit
import Derived.Maps.AppendAt
import Derived.KernelRfl
import Derived.Maps.Own
import Derived.StringKeys
import Derived.Lib.BytesEntry
import Derived.Lib.SlMapFilter
import Derived.RangeFuncIn
import Derived.RangeFuncRecord
import Derived.RangeFuncLeaves
import Derived.TacticsIn
import Derived.Laws.MakeOwn
import Derived.LoopNIn
import Derived.Lib.ConvBytes
set_option linter.unusedVariables false
set_option linter.unusedSimpArgs false
namespace Go.E
open Go.RowKit

/-! ### 1. Abstract values -/
inductive AV where
  | any
  | ub
  | int (k : IntKind) (n : Int)
  | bool (b : Bool)
  | str (s : ByteArray)
  | emp
  | ro (born : Bool) (sz n : Nat) (get : Nat → List AV)
  | fr (e : TypeId) (sz n : Nat) (get : Nat → List AV)
  | own (id sz off n : Nat)
  | ptr (id off : Nat)
  | ept (id sz i off : Nat)
  | pv (cs : List AV)
  | nilp
  | fn (f : Fn) (first cap : List AV)
  | raw (v : Value)
  | agg (cs : List AV)
  | tup (cs : List AV)
  | yld (id : Nat)
  | mp (id : Nat)
  deriving Inhabited

inductive Tr (α : Type) where
  | leaf
  | node (l : Tr α) (v : Option α) (r : Tr α)
def Tr.get {α : Type} : Tr α → Nat → Option α
  | .leaf, _ => none
  | .node l v r, k => match k with
    | 0 => v
    | k + 1 => bif Nat.beq (k % 2) 0 then l.get (k / 2) else r.get (k / 2)

/-- What a block of one's own holds: the cells of a variable; the first elements of a row; a walk over a text; a map; a walk over one; a loop over a function, and the block of its deferred calls. -/
inductive Blk where
  | box (t : TypeId) (cs : List AV)
  | arr (e : TypeId) (sz n : Nat) (get : Nat → List AV)
  | sit (s : ByteArray) (pos : Nat)
  | map (es : List (AV × AV × Nat)) (clock : Nat)
  | smap (k e : TypeId) (n : Nat) (D : DataW Unit)
  | mit (m since : Nat) (seen : List Nat) (stepped : Nat)
  | loop (state : LoopState) (pend : Option Code) (n : Nat) (env : Tr AV) (ps : Array Tmp) (assign body : Code) (dfr : Nat)
  | dfr
  | junk

/-- A world, where the own blocks lie, which blocks may be written, from where on blocks are born, which names are in use. -/
structure En where
  w : World
  β : Nat → Nat
  M : Nat → Prop
  B : Nat
  D : Nat → Prop

def U8ok (P : Program) (t : TypeId) (cs : Array Value) : Prop :=
  P.underlying t = some (.int .u8) → ∀ (k : Nat) (x : Value), cs[k]? = some x → ∃ n, x = .int .u8 n

def Born (P : Program) (E : En) (sz : Nat) (A : Option Addr) (c : Nat) : Prop :=
  c = 0 ∨ ∃ g o cs t, A = some ⟨g, o, none⟩ ∧ E.B ≤ g ∧ ¬ E.M g ∧ E.w.heap[g]? = some (.cells cs t (0, 0)) ∧ o + c * sz ≤ cs.size ∧ U8ok P t cs

inductive Cv (P : Program) (E : En) : AV → Value → Prop where
  | any (v : Value) : Cv P E .any v
  | ub (b : Bool) : Cv P E .ub (.bool b)
  | int (k : IntKind) (n : Int) : Cv P E (.int k n) (.int k n)
  | bool (b : Bool) : Cv P E (.bool b) (.bool b)
  | str (s : ByteArray) : Cv P E (.str s) (.string s)
  | emp : Cv P E .emp (.slice none 0 0)
  | ro {born : Bool} {sz n : Nat} {get : Nat → List AV} {A : Option Addr} {c : Nat} (val : Nat → Nat → Value) (hc : n ≤ c)
      (hA : 0 < n → ∃ g o, A = some ⟨g, o, none⟩ ∧ g < E.w.heap.size ∧ ¬ E.M g ∧ ∀ i j, i < n → j < sz → E.w.cell? ⟨g, o + i * sz + j, none⟩ = some (val i j))
      (hl : ∀ i, i < n → (get i).length = sz)
      (hv : ∀ i j a, i < n → (get i)[j]? = some a → Cv P E a (val i j))
      (hb : born = true → Born P E sz A c) : Cv P E (.ro born sz n get) (.slice A n c)
  | own {id sz off n c : Nat} {A : Option Addr} (hD : E.D id) (hc : n ≤ c) (hA : ∃ o, A = some ⟨E.β id, o, none⟩ ∧ (0 < c ∨ off = 0 → o = off * sz))
      (hs : ∃ cs t, E.w.heap[E.β id]? = some (.cells cs t (0, 0)) ∧ (off + c) * sz = cs.size) (hm : off + c ≤ maxLen) : Cv P E (.own id sz off n) (.slice A n c)
  | ptr {id off : Nat} (hD : E.D id) : Cv P E (.ptr id off) (.pointer (some ⟨E.β id, off, none⟩))
  | ept {id sz i off : Nat} (hD : E.D id) : Cv P E (.ept id sz i off) (.pointer (some ⟨E.β id, i * sz + off, none⟩))
  | pv {cs : List AV} {g o : Nat} (val : Nat → Value) (hg : g < E.w.heap.size) (hM : ¬ E.M g) (hc : ∀ j, j < cs.length → E.w.cell? ⟨g, o + j, none⟩ = some (val j))
      (hv : ∀ j a, cs[j]? = some a → Cv P E a (val j)) : Cv P E (.pv cs) (.pointer (some ⟨g, o, none⟩))
  | nilp : Cv P E .nilp (.pointer none)
  | fn {f : Fn} {first cap : List AV} {vs us : Array Value} (h1 : vs.size = first.length) (h2 : us.size = cap.length)
      (h3 : ∀ (j : Nat) (a : AV) (v : Value), first[j]? = some a → (vs[j]? : Option Value) = some v → Cv P E a v) (h4 : ∀ (j : Nat) (a : AV) (v : Value), cap[j]? = some a → (us[j]? : Option Value) = some v → Cv P E a v) : Cv P E (.fn f first cap) (.func f vs us)
  | raw (v : Value) : Cv P E (.raw v) v
  | agg {cs : List AV} {vs : Array Value} (h1 : vs.size = cs.length) (h2 : ∀ (j : Nat) (a : AV) (v : Value), cs[j]? = some a → (vs[j]? : Option Value) = some v → Cv P E a v) : Cv P E (.agg cs) (.agg vs)
  | tup {cs : List AV} {vs : Array Value} (h1 : vs.size = cs.length) (h2 : ∀ (j : Nat) (a : AV) (v : Value), cs[j]? = some a → (vs[j]? : Option Value) = some v → Cv P E a v) : Cv P E (.tup cs) (.tuple vs)
  | yld {id : Nat} (hD : E.D id) : Cv P E (.yld id) (.func (.yield (E.β id)) #[] #[])
  | mp {id : Nat} (hD : E.D id) : Cv P E (.mp id) (.map (some (E.β id)))

/-- What was known stays known. -/
structure En.le (E E' : En) : Prop where
  keep : ∀ g o, ¬ E.M g → E.w.heap[g]? = some o → E'.w.heap[g]? = some o
  old : ∀ g, g < E.w.heap.size → E'.M g → E.M g
  bet : ∀ i, E.D i → E'.β i = E.β i
  dom : ∀ i, E.D i → E'.D i
  B : E'.B ≤ E.B
  shape : ∀ (g : Nat) cs t, E.w.heap[g]? = some (.cells cs t (0, 0)) → ∃ cs', E'.w.heap[g]? = some (.cells cs' t (0, 0)) ∧ cs'.size = cs.size
  size : E.w.heap.size ≤ E'.w.heap.size

theorem En.le.refl (E : En) : E.le E := ⟨fun _ _ _ h => h, fun _ _ h => h, fun _ _ => rfl, fun _ h => h, Nat.le_refl _, fun _ cs t h => ⟨cs, h, rfl⟩, Nat.le_refl _⟩
theorem lt_of_heap {w : World} {g : Nat} {o : Obj} (h : w.heap[g]? = some o) : g < w.heap.size := (Array.getElem?_eq_some_iff.1 h).1
theorem En.le.trans {E F G : En} (h : E.le F) (k : F.le G) : E.le G where
  keep g o hM hg := k.keep g o (fun hF => hM (h.old g (lt_of_heap hg) hF)) (h.keep g o hM hg)
  old g hg hG := h.old g hg (k.old g (Nat.lt_of_lt_of_le hg h.size) hG)
  bet i hi := (k.bet i (h.dom i hi)).trans (h.bet i hi)
  dom i hi := k.dom i (h.dom i hi)
  B := Nat.le_trans k.B h.B
  shape g cs t hg := by
    obtain ⟨c1, h1, e1⟩ := h.shape g cs t hg
    obtain ⟨c2, h2, e2⟩ := k.shape g c1 t h1
    exact ⟨c2, h2, e2.trans e1⟩
  size := Nat.le_trans h.size k.size

theorem cell_obj {w : World} {g o : Nat} {v : Value} (h : w.cell? ⟨g, o, none⟩ = some v) : ∃ cs t fz, w.heap[g]? = some (.cells cs t fz) ∧ cs[o]? = some v := by
  simp only [World.cell?] at h
  split at h
  · rename_i c t fz hg
    exact ⟨c, t, fz, hg, by simpa using h⟩
  · cases h
theorem obj_cell {w : World} {g o : Nat} {v : Value} {cs : Array Value} {t : TypeId} {fz : Nat × Nat} (h : w.heap[g]? = some (.cells cs t fz)) (hv : cs[o]? = some v) : w.cell? ⟨g, o, none⟩ = some v := by
  simp [World.cell?, h, hv]
theorem En.le.cell {E E' : En} (h : E.le E') {g o : Nat} {v : Value} (hM : ¬ E.M g) (hc : E.w.cell? ⟨g, o, none⟩ = some v) : E'.w.cell? ⟨g, o, none⟩ = some v := by
  obtain ⟨cs, t, fz, h1, h2⟩ := cell_obj hc
  exact obj_cell (h.keep g _ hM h1) h2
theorem Born.mono {P : Program} {E E' : En} {sz : Nat} {A : Option Addr} {c : Nat} (h : E.le E') (hb : Born P E sz A c) : Born P E' sz A c := by
  rcases hb with hb | ⟨g, o, cs, t, e, hB, hM, hh, hs, hu⟩
  · exact .inl hb
  · exact .inr ⟨g, o, cs, t, e, Nat.le_trans h.B hB, fun hM' => hM (h.old g (lt_of_heap hh) hM'), h.keep g _ hM hh, hs, hu⟩

theorem Cv.mono {P : Program} {E E' : En} (h : E.le E') {a : AV} {v : Value} (hc : Cv P E a v) : Cv P E' a v := by
  induction hc with
  | any v => exact .any v
  | ub b => exact .ub b
  | int k n => exact .int k n
  | bool b => exact .bool b
  | str s => exact .str s
  | emp => exact .emp
  | @ro born sz n get A c val hc hA hl hv hb ih =>
    refine .ro val hc (fun hn => ?_) hl ih (fun hb' => (hb hb').mono h)
    obtain ⟨g, o, e, hg, hM, hcell⟩ := hA hn
    exact ⟨g, o, e, Nat.lt_of_lt_of_le hg h.size, fun hM' => hM (h.old g hg hM'), fun i j hi hj => h.cell hM (hcell i j hi hj)⟩
  | own hD hc hA hs hm =>
    obtain ⟨cs, t, h1, h2⟩ := hs
    obtain ⟨cs', h3, h4⟩ := h.shape _ cs t h1
    rw [← h.bet _ hD] at hA
    exact .own (h.dom _ hD) hc hA ⟨cs', t, by rw [h.bet _ hD]; exact h3, h2.trans h4.symm⟩ hm
  | ptr hD => rw [← h.bet _ hD]; exact .ptr (h.dom _ hD)
  | ept hD => rw [← h.bet _ hD]; exact .ept (h.dom _ hD)
  | @pv cs g o val hg hM hc hv ih => exact .pv val (Nat.lt_of_lt_of_le hg h.size) (fun hM' => hM (h.old g hg hM')) (fun j hj => h.cell hM (hc j hj)) ih
  | nilp => exact .nilp
  | fn h1 h2 h3 h4 i3 i4 => exact .fn h1 h2 i3 i4
  | raw v => exact .raw v
  | agg h1 h2 ih => exact .agg h1 ih
  | tup h1 h2 ih => exact .tup h1 ih
  | yld hD => rw [← h.bet _ hD]; exact .yld (h.dom _ hD)
  | mp hD => rw [← h.bet _ hD]; exact .mp (h.dom _ hD)

/-! ### 2. Own blocks -/
abbrev Hp := Nat → Option Blk
def upd (H : Hp) (id : Nat) (b : Option Blk) : Hp := fun j => bif Nat.beq j id then b else H j
theorem upd_same (H : Hp) (id : Nat) (b : Option Blk) : upd H id b id = b := by simp [upd]
theorem upd_ne (H : Hp) {id j : Nat} (b : Option Blk) (h : j ≠ id) : upd H id b j = H j := by
  unfold upd
  have : Nat.beq j id = false := by
    rw [Bool.eq_false_iff]
    exact fun e => h (Nat.eq_of_beq_eq_true e)
  simp [this]

def MS (N : Nat → Prop) (β : Nat → Nat) (H : Hp) (g : Nat) : Prop := N g ∨ ∃ i b, H i = some b ∧ β i = g

def BlkOk (P : Program) (E : En) (g : Nat) : Blk → Prop
  | .box t cs => ∃ vs : Array Value, E.w.heap[g]? = some (.cells vs t (0, 0)) ∧ vs.size = cs.length ∧ ∀ (j : Nat) (a : AV) (v : Value), cs[j]? = some a → (vs[j]? : Option Value) = some v → Cv P E a v
  | .arr e sz n get => ∃ vs : Array Value, E.w.heap[g]? = some (.cells vs e (0, 0)) ∧ n * sz ≤ vs.size ∧ (∀ i, i < n → (get i).length = sz) ∧
      (∀ (i j : Nat) (a : AV) (v : Value), i < n → (get i)[j]? = some a → (vs[i * sz + j]? : Option Value) = some v → Cv P E a v) ∧ U8ok P e vs
  | .sit s pos => E.w.heap[g]? = some (.stringIter s pos)
  | .map es clock => ∃ vs : Array MapEntry, E.w.heap[g]? = some (.map vs clock) ∧ vs.size = es.length ∧ ∀ (j : Nat) (a : AV × AV × Nat) (v : MapEntry), es[j]? = some a → (vs[j]? : Option MapEntry) = some v → Cv P E a.1 v.key ∧ Cv P E a.2.1 v.val ∧ v.born = a.2.2
  | .smap k e n D => E.w.ownsMap P k (plainElem P e) g n D
  | .mit m since seen stepped => E.D m ∧ E.w.heap[g]? = some (.mapIter (some (E.β m)) since seen.toArray stepped)
  | .loop state pend n env ps assign body dfr => E.D dfr ∧ ∃ (fn : FuncId) (tmps : Array Value), E.w.heap[g]? = some (.loop { state, pending := pend, fn, tmps, params := ps, assign, body, defers := E.β dfr }) ∧ tmps.size = n ∧ ∀ t a, env.get t = some a → t < tmps.size ∧ Cv P E a (tmps.getD t undef)
  | .dfr => E.w.heap[g]? = some (.deferred (some []))
  | .junk => ∃ o, E.w.heap[g]? = some o

theorem BlkOk.mono {P : Program} {E E' : En} (h : E.le E') {g : Nat} (hg : E'.w.heap[g]? = E.w.heap[g]?) {b : Blk} (hb : BlkOk P E g b) : BlkOk P E' g b := by
  cases b with
  | box t cs =>
    obtain ⟨vs, h1, h2, h3⟩ := hb
    exact ⟨vs, hg.trans h1, h2, fun j a v ha hv => (h3 j a v ha hv).mono h⟩
  | arr e sz n get =>
    obtain ⟨vs, h1, h2, h3, h4, h5⟩ := hb
    exact ⟨vs, hg.trans h1, h2, h3, fun i j a v hi ha hv => (h4 i j a v hi ha hv).mono h, h5⟩
  | sit s pos => exact hg.trans hb
  | map es clock =>
    obtain ⟨vs, h1, h2, h3⟩ := hb
    exact ⟨vs, hg.trans h1, h2, fun j a v ha hv => ⟨(h3 j a v ha hv).1.mono h, (h3 j a v ha hv).2.1.mono h, (h3 j a v ha hv).2.2⟩⟩
  | smap k e n D =>
    obtain ⟨es, clock, h1, h2⟩ := hb
    exact ⟨es, clock, hg.trans h1, h2⟩
  | mit m since seen stepped =>
    obtain ⟨h1, h2⟩ := hb
    exact ⟨h.dom _ h1, by rw [h.bet _ h1]; exact hg.trans h2⟩
  | loop state pend n env ps assign body dfr =>
    obtain ⟨h1, fn, tmps, h2, h3, h4⟩ := hb
    exact ⟨h.dom _ h1, fn, tmps, by rw [h.bet _ h1]; exact hg.trans h2, h3, fun t a ha => ⟨(h4 t a ha).1, (h4 t a ha).2.mono h⟩⟩
  | dfr => exact hg.trans hb
  | junk => obtain ⟨o, ho⟩ := hb; exact ⟨o, hg.trans ho⟩

theorem BlkOk.there {P : Program} {E : En} {g : Nat} {b : Blk} (hb : BlkOk P E g b) : ∃ o, E.w.heap[g]? = some o := by
  cases b with
  | box t cs => obtain ⟨vs, h1, _⟩ := hb; exact ⟨_, h1⟩
  | arr e sz n get => obtain ⟨vs, h1, _⟩ := hb; exact ⟨_, h1⟩
  | sit s pos => exact ⟨_, hb⟩
  | map es clock => obtain ⟨vs, h1, _⟩ := hb; exact ⟨_, h1⟩
  | smap k e n D => obtain ⟨es, clock, h1, _⟩ := hb; exact ⟨_, h1⟩
  | mit m since seen stepped => exact ⟨_, hb.2⟩
  | loop state pend n env ps assign body dfr => obtain ⟨_, fn, tmps, h1, _⟩ := hb; exact ⟨_, h1⟩
  | dfr => exact ⟨_, hb⟩
  | junk => exact hb

structure HpOk (P : Program) (E : En) (H : Hp) : Prop where
  blk : ∀ i b, H i = some b → E.D i ∧ E.M (E.β i) ∧ E.B ≤ E.β i ∧ BlkOk P E (E.β i) b
  inj : ∀ i j b c, H i = some b → H j = some c → E.β i = E.β j → i = j

/-- All that is not one's own is as it was. -/
structure Fr (β : Nat → Nat) (H : Hp) (w w' : World) : Prop where
  os : w'.os = w.os
  tape : w'.tape = w.tape
  output : w'.output = w.output
  size : w.heap.size ≤ w'.heap.size
  block : ∀ k, k < w.heap.size → (∀ i b, H i = some b → β i ≠ k) → w'.heap[k]? = w.heap[k]?
theorem Fr.refl (β : Nat → Nat) (H : Hp) (w : World) : Fr β H w w := ⟨rfl, rfl, rfl, Nat.le_refl _, fun _ _ _ => rfl⟩

def En.mk' (w : World) (β : Nat → Nat) (N : Nat → Prop) (H : Hp) (B : Nat) (D : Nat → Prop) : En := ⟨w, β, MS N β H, B, D⟩
@[simp] theorem En.mk'_w (w : World) (β : Nat → Nat) (N : Nat → Prop) (H : Hp) (B : Nat) (D : Nat → Prop) : (En.mk' w β N H B D).w = w := rfl
@[simp] theorem En.mk'_β (w : World) (β : Nat → Nat) (N : Nat → Prop) (H : Hp) (B : Nat) (D : Nat → Prop) : (En.mk' w β N H B D).β = β := rfl
@[simp] theorem En.mk'_M (w : World) (β : Nat → Nat) (N : Nat → Prop) (H : Hp) (B : Nat) (D : Nat → Prop) : (En.mk' w β N H B D).M = MS N β H := rfl
@[simp] theorem En.mk'_B (w : World) (β : Nat → Nat) (N : Nat → Prop) (H : Hp) (B : Nat) (D : Nat → Prop) : (En.mk' w β N H B D).B = B := rfl
@[simp] theorem En.mk'_D (w : World) (β : Nat → Nat) (N : Nat → Prop) (H : Hp) (B : Nat) (D : Nat → Prop) : (En.mk' w β N H B D).D = D := rfl

theorem HpOk.lt {P : Program} {E : En} {H : Hp} (h : HpOk P E H) {i : Nat} {b : Blk} (hi : H i = some b) : E.β i < E.w.heap.size := by
  obtain ⟨_, _, _, hb⟩ := h.blk i b hi
  obtain ⟨o, hh⟩ := hb.there
  exact lt_of_heap hh

/-- Names that an operation may give: four. -/
def Dn (D : Nat → Prop) (id : Nat) : Nat → Prop := fun j => D j ∨ (id ≤ j ∧ j < id + 4)
/-- The state behind a step: what was known stays, the own blocks hold what is said, the value is what is said. -/
def Post (P : Program) (N : Nat → Prop) (B : Nat) (D : Nat → Prop) (β : Nat → Nat) (H : Hp) (w : World) (id : Nat) (a : AV) (H' : Hp) (v : Value) (w' : World) : Prop :=
  ∃ β', (En.mk' w β N H B D).le (En.mk' w' β' N H' B (Dn D id)) ∧ HpOk P (En.mk' w' β' N H' B (Dn D id)) H' ∧ Cv P (En.mk' w' β' N H' B (Dn D id)) a v ∧ Fr β H w w'

/-- New blocks, named from id on. -/
def addB (H : Hp) (id : Nat) (bs : List Blk) : Hp := fun j => bif Nat.ble id j && Nat.ble (j + 1) (id + bs.length) then bs[j - id]? else H j
theorem addB_in (H : Hp) {id j : Nat} {bs : List Blk} (h1 : id ≤ j) (h2 : j < id + bs.length) : addB H id bs j = bs[j - id]? := by
  have e : (Nat.ble id j && Nat.ble (j + 1) (id + bs.length)) = true := by simp only [Bool.and_eq_true, Nat.ble_eq]; exact ⟨h1, h2⟩
  simp [addB, e]
theorem addB_out (H : Hp) {id j : Nat} {bs : List Blk} (h : ¬ (id ≤ j ∧ j < id + bs.length)) : addB H id bs j = H j := by
  have : (Nat.ble id j && Nat.ble (j + 1) (id + bs.length)) = false := by
    rw [Bool.eq_false_iff]
    intro e
    simp only [Bool.and_eq_true, Nat.ble_eq] at e
    exact h ⟨e.1, e.2⟩
  simp [addB, this]

theorem le_dom (w : World) (β : Nat → Nat) (N : Nat → Prop) (H : Hp) (B : Nat) (D D' : Nat → Prop) (h : ∀ i, D i → D' i) : (En.mk' w β N H B D).le (En.mk' w β N H B D') :=
  ⟨fun _ _ _ h => h, fun _ _ h => h, fun _ _ => rfl, h, Nat.le_refl _, fun _ cs t h => ⟨cs, h, rfl⟩, Nat.le_refl _⟩
theorem HpOk.dom {P : Program} {w : World} {β : Nat → Nat} {N : Nat → Prop} {H : Hp} {B : Nat} {D D' : Nat → Prop} (h : HpOk P (En.mk' w β N H B D) H) (hd : ∀ i, D i → D' i) : HpOk P (En.mk' w β N H B D') H :=
  ⟨fun i b hi => by
    obtain ⟨h1, h2, h3, h4⟩ := h.blk i b hi
    exact ⟨hd _ h1, h2, h3, h4.mono (le_dom w β N H B D D' hd) rfl⟩, h.inj⟩

section
variable {P : Program} {N : Nat → Prop} {B : Nat} {D : Nat → Prop} {β : Nat → Nat} {H : Hp} {w w' : World}

/-- Nothing turns. -/
theorem Post.same (id : Nat) (hh : HpOk P (En.mk' w β N H B D) H) {a : AV} {v : Value} (hv : Cv P (En.mk' w β N H B D) a v) : Post P N B D β H w id a H v w :=
  ⟨β, le_dom w β N H B D _ (fun _ h => .inl h), hh.dom (fun _ h => .inl h), hv.mono (le_dom w β N H B D _ (fun _ h => .inl h)), Fr.refl _ _ _⟩

/-- Where the names point, the new ones too. -/
def addβ (β : Nat → Nat) (id n : Nat) (γ : Nat → Nat) : Nat → Nat := fun j => if id ≤ j ∧ j < id + n then γ (j - id) else β j
/-- New blocks. -/
theorem news_le {id : Nat} {bs : List Blk} {γ : Nat → Nat} (hlen : bs.length ≤ 4) (hid : ∀ j, id ≤ j → j < id + 4 → ¬ D j) (hγ : ∀ j, j < bs.length → w.heap.size ≤ γ j)
    (h1 : ∀ k, k < w.heap.size → w'.heap[k]? = w.heap[k]?) (hs : w.heap.size ≤ w'.heap.size) :
    (En.mk' w β N H B D).le (En.mk' w' (addβ β id bs.length γ) N (addB H id bs) B (Dn D id)) where
  keep g o _ hg := (h1 g (lt_of_heap hg)).trans hg
  old g hg hM := by
    rcases hM with hM | ⟨i, c, hi, he⟩
    · exact .inl hM
    · by_cases hii : id ≤ i ∧ i < id + bs.length
      · rw [addβ, if_pos hii] at he
        have := hγ (i - id) (by omega)
        simp at hg
        omega
      · rw [addB_out _ hii] at hi
        exact .inr ⟨i, c, hi, by rwa [addβ, if_neg hii] at he⟩
  bet i hi := by
    simp only [En.mk'_β, addβ]
    rw [if_neg (fun e => hid i e.1 (by omega) hi)]
  dom i hi := .inl hi
  B := Nat.le_refl _
  shape g cs t hg := ⟨cs, (h1 g (lt_of_heap hg)).trans hg, rfl⟩
  size := hs
theorem news_hp {id : Nat} {bs : List Blk} {γ : Nat → Nat} (hlen : bs.length ≤ 4) (hid : ∀ j, id ≤ j → j < id + 4 → ¬ D j) (hh : HpOk P (En.mk' w β N H B D) H) (hB : B ≤ w.heap.size)
    (hγ : ∀ j, j < bs.length → w.heap.size ≤ γ j) (hinj : ∀ i j, i < bs.length → j < bs.length → γ i = γ j → i = j)
    (h1 : ∀ k, k < w.heap.size → w'.heap[k]? = w.heap[k]?) (hs : w.heap.size ≤ w'.heap.size) (h3 : w'.os = w.os ∧ w'.tape = w.tape ∧ w'.output = w.output)
    (hb : ∀ j b, bs[j]? = some b → BlkOk P (En.mk' w' (addβ β id bs.length γ) N (addB H id bs) B (Dn D id)) (γ j) b) :
    HpOk P (En.mk' w' (addβ β id bs.length γ) N (addB H id bs) B (Dn D id)) (addB H id bs) := by
  have hle := news_le (N := N) (B := B) (H := H) (β := β) (D := D) hlen hid hγ h1 hs
  refine ⟨fun i c hi => ?_, fun i j c d hi hj he => ?_⟩
  · by_cases hii : id ≤ i ∧ i < id + bs.length
    · have hi' := hi
      rw [addB_in _ hii.1 hii.2] at hi
      have hbi := hb _ _ hi
      have hg := hγ (i - id) (by omega)
      simp only [En.mk'_β, En.mk'_M, En.mk'_B, addβ, if_pos hii]
      refine ⟨.inr ⟨hii.1, by omega⟩, .inr ⟨i, c, hi', ?_⟩, by omega, hbi⟩
      rw [addβ, if_pos hii]
    · have hi' := hi
      rw [addB_out _ hii] at hi
      obtain ⟨q1, q2, q3, q4⟩ := hh.blk i c hi
      simp only [En.mk'_β, En.mk'_M, En.mk'_B, addβ, if_neg hii]
      refine ⟨.inl q1, .inr ⟨i, c, hi', ?_⟩, q3, q4.mono hle (h1 _ (hh.lt hi))⟩
      rw [addβ, if_neg hii]
  · by_cases hii : id ≤ i ∧ i < id + bs.length <;> by_cases hjj : id ≤ j ∧ j < id + bs.length
    · simp only [En.mk'_β, addβ, if_pos hii, if_pos hjj] at he
      have := hinj _ _ (by omega) (by omega) he
      omega
    · rw [addB_out _ hjj] at hj
      have := hh.lt hj
      have h4 := hγ (i - id) (by omega)
      simp only [En.mk'_β, addβ, if_pos hii, if_neg hjj, En.mk'_w] at he this
      omega
    · rw [addB_out _ hii] at hi
      have := hh.lt hi
      have h4 := hγ (j - id) (by omega)
      simp only [En.mk'_β, addβ, if_neg hii, if_pos hjj, En.mk'_w] at he this
      omega
    · rw [addB_out _ hii] at hi
      rw [addB_out _ hjj] at hj
      simp only [En.mk'_β, addβ, if_neg hii, if_neg hjj] at he
      exact hh.inj i j c d hi hj he
theorem Post.news {id : Nat} {bs : List Blk} {γ : Nat → Nat} (hlen : bs.length ≤ 4) (hid : ∀ j, id ≤ j → j < id + 4 → ¬ D j) (hh : HpOk P (En.mk' w β N H B D) H) (hB : B ≤ w.heap.size)
    (hγ : ∀ j, j < bs.length → w.heap.size ≤ γ j) (hinj : ∀ i j, i < bs.length → j < bs.length → γ i = γ j → i = j)
    (h1 : ∀ k, k < w.heap.size → w'.heap[k]? = w.heap[k]?) (hs : w.heap.size ≤ w'.heap.size) (h3 : w'.os = w.os ∧ w'.tape = w.tape ∧ w'.output = w.output)
    (hb : ∀ j b, bs[j]? = some b → BlkOk P (En.mk' w' (addβ β id bs.length γ) N (addB H id bs) B (Dn D id)) (γ j) b) {a : AV} {v : Value}
    (hv : Cv P (En.mk' w' (addβ β id bs.length γ) N (addB H id bs) B (Dn D id)) a v) :
    Post P N B D β H w id a (addB H id bs) v w' :=
  ⟨_, news_le (N := N) (B := B) (H := H) (β := β) (D := D) hlen hid hγ h1 hs, news_hp hlen hid hh hB hγ hinj h1 hs h3 hb, hv, ⟨h3.1, h3.2.1, h3.2.2, hs, fun k hk _ => h1 k hk⟩⟩
/-- One new block. -/
theorem Post.new {id : Nat} (hid : ∀ j, id ≤ j → j < id + 4 → ¬ D j) (hh : HpOk P (En.mk' w β N H B D) H) (hB : B ≤ w.heap.size) {b : Blk} {vs : Array Value} {t : TypeId}
    (h1 : ∀ k, k < w.heap.size → w'.heap[k]? = w.heap[k]?) (h2 : w'.heap[w.heap.size]? = some (.cells vs t (0, 0))) (h3 : w'.os = w.os ∧ w'.tape = w.tape ∧ w'.output = w.output)
    (hb : ∀ E' : En, (En.mk' w β N H B D).le E' → E'.w = w' → BlkOk P E' w.heap.size b) {a : AV} {v : Value}
    (hv : ∀ E' : En, (En.mk' w β N H B D).le E' → E'.w = w' → E'.β id = w.heap.size → E'.D id → Cv P E' a v) :
    Post P N B D β H w id a (addB H id [b]) v w' := by
  have hs : w.heap.size ≤ w'.heap.size := Nat.le_of_lt (lt_of_heap h2)
  have hle := news_le (N := N) (B := B) (H := H) (β := β) (D := D) (bs := [b]) (γ := fun _ => w.heap.size) (by simp) hid (fun _ _ => Nat.le_refl _) h1 hs
  exact Post.news (by simp) hid hh hB (fun _ _ => Nat.le_refl _) (fun i j hi hj _ => by simp at hi hj; omega) h1 hs h3
    (fun j c hc => by
      cases j with
      | zero => simp at hc; subst hc; exact hb _ hle rfl
      | succ j => simp at hc)
    (hv _ hle rfl (by simp [addβ]) (.inr ⟨Nat.le_refl _, by omega⟩))

/-- An own block is written. -/
theorem set_le (id' : Nat) {i : Nat} {b b' : Blk} {vs vs' : Array Value} {t : TypeId} (hi : H i = some b) (hg : w.heap[β i]? = some (.cells vs t (0, 0)))
    (hg' : w'.heap[β i]? = some (.cells vs' t (0, 0))) (hsz : vs'.size = vs.size) (h1 : ∀ k, k ≠ β i → w'.heap[k]? = w.heap[k]?) (hs : w'.heap.size = w.heap.size) :
    (En.mk' w β N H B D).le (En.mk' w' β N (upd H i (some b')) B (Dn D id')) where
  keep g o hM hg := by
    have : g ≠ β i := fun e => hM (.inr ⟨i, b, hi, e.symm⟩)
    exact (h1 g this).trans hg
  old g _ hM := by
    rcases hM with hM | ⟨j, c, hj, he⟩
    · exact .inl hM
    · by_cases hji : j = i
      · subst hji; exact .inr ⟨j, b, hi, he⟩
      · rw [upd_ne _ _ hji] at hj
        exact .inr ⟨j, c, hj, he⟩
  bet _ _ := rfl
  dom _ h := .inl h
  B := Nat.le_refl _
  shape g cs u hgg := by
    by_cases he : g = β i
    · subst he
      simp only [En.mk'_w] at hgg ⊢
      rw [hg] at hgg
      cases hgg
      exact ⟨vs', hg', hsz⟩
    · exact ⟨cs, (h1 g he).trans hgg, rfl⟩
  size := Nat.le_of_eq hs.symm
theorem Post.set (id' : Nat) (hh : HpOk P (En.mk' w β N H B D) H) {i : Nat} {b b' : Blk} {vs vs' : Array Value} {t : TypeId} (hi : H i = some b) (hg : w.heap[β i]? = some (.cells vs t (0, 0)))
    (hg' : w'.heap[β i]? = some (.cells vs' t (0, 0))) (hsz : vs'.size = vs.size) (h1 : ∀ k, k ≠ β i → w'.heap[k]? = w.heap[k]?) (hs : w'.heap.size = w.heap.size) (h3 : w'.os = w.os ∧ w'.tape = w.tape ∧ w'.output = w.output)
    (hb : ∀ E' : En, (En.mk' w β N H B D).le E' → E'.w = w' → BlkOk P E' (β i) b') {a : AV} {v : Value} (hv : ∀ E' : En, (En.mk' w β N H B D).le E' → Cv P E' a v) :
    Post P N B D β H w id' a (upd H i (some b')) v w' := by
  have hle := set_le (N := N) (B := B) (D := D) id' (b' := b') hi hg hg' hsz h1 hs
  refine ⟨β, hle, ⟨fun j c hj => ?_, fun j k c d hj hk he => ?_⟩, hv _ hle, ⟨h3.1, h3.2.1, h3.2.2, Nat.le_of_eq hs.symm, fun k _ hno => h1 k (fun e => hno i b hi e.symm)⟩⟩
  · by_cases hji : j = i
    · subst hji
      rw [upd_same] at hj
      cases hj
      obtain ⟨q1, q2, q3, q4⟩ := hh.blk j b hi
      exact ⟨.inl q1, .inr ⟨j, _, upd_same _ _ _, rfl⟩, q3, hb _ hle rfl⟩
    · rw [upd_ne _ _ hji] at hj
      obtain ⟨q1, q2, q3, q4⟩ := hh.blk j c hj
      refine ⟨.inl q1, .inr ⟨j, c, by rw [upd_ne _ _ hji]; exact hj, rfl⟩, q3, q4.mono hle (h1 _ (fun e => hji (hh.inj j i c b hj hi e)))⟩
  · have fix : ∀ j c, upd H i (some b') j = some c → ∃ c', H j = some c' := fun j c hj => by
      by_cases hji : j = i
      · subst hji; exact ⟨b, hi⟩
      · rw [upd_ne _ _ hji] at hj; exact ⟨c, hj⟩
    obtain ⟨c', hc⟩ := fix j c hj
    obtain ⟨d', hd⟩ := fix k d hk
    exact hh.inj j k c' d' hc hd he
end

/-! ### 3. Operations that leave the world as it is -/
def vIf (b : Bool) (p q : Prop) : Prop := match b with | true => p | false => q
theorem vIf_cases {b : Bool} {p q : Prop} (h : vIf b p q) : (b = true ∧ p) ∨ (b = false ∧ q) := by
  cases b
  · exact .inr ⟨rfl, h⟩
  · exact .inl ⟨rfl, h⟩

def avCell : Value → AV
  | .int k n => .int k n
  | .bool b => .bool b
  | .string s => .str s
  | .slice none 0 0 => .emp
  | .pointer none => .nilp
  | v => .raw v
def avOf : Value → AV
  | .agg cs => .agg (cs.toList.map avCell)
  | v => avCell v
theorem avCell_ok (P : Program) (E : En) (v : Value) : Cv P E (avCell v) v := by
  unfold avCell
  split <;> first | exact .int _ _ | exact .bool _ | exact .str _ | exact .emp | exact .nilp | exact .raw _
theorem avOf_ok (P : Program) (E : En) (v : Value) : Cv P E (avOf v) v := by
  unfold avOf
  split
  · rename_i cs
    refine .agg (by simp) fun j a u ha hu => ?_
    simp only [List.getElem?_map, Array.getElem?_toList, hu, Option.map_some, Option.some.injEq] at ha
    subst ha
    exact avCell_ok P E u
  · exact avCell_ok P E _

def evA (env : Nat → AV) : Operand → AV
  | .tmp t => env t
  | .const v => avOf v
  | .global g => .raw (.pointer (some ⟨g, 0, none⟩))
  | .func f => .fn (.func f) [] []
theorem evA_ok {P : Program} {E : En} {env : Nat → AV} {act : Act} {x : Operand} (h : ∀ t, x = .tmp t → Cv P E (env t) (act.tmps.getD t undef)) : Cv P E (evA env x) (act.eval x) := by
  cases x with
  | tmp t => exact h t rfl
  | const v => exact avOf_ok P E v
  | global g => exact .raw _
  | func f => exact .fn (by simp) (by simp) (fun j a v h => by simp at h) (fun j a v h => by simp at h)

def isCell : AV → Bool
  | .any | .agg _ | .tup _ | .fr .. => false
  | .raw v => v.oneCell'
  | _ => true
def cellsOf : AV → Option (List AV)
  | .agg cs => if cs.all isCell then some cs else none
  | a => if isCell a then some [a] else none

theorem isCell_one {P : Program} {E : En} {a : AV} {v : Value} (h : isCell a = true) (hc : Cv P E a v) : v.oneCell' = true ∧ v.cells = #[v] := by
  cases hc <;> simp [isCell] at h <;> first | exact ⟨rfl, rfl⟩ | skip
  refine ⟨h, ?_⟩
  cases v <;> simp [Value.oneCell'] at h <;> rfl
theorem cellsOf_ok {P : Program} {E : En} {a : AV} {v : Value} {cs : List AV} (h : cellsOf a = some cs) (hc : Cv P E a v) :
    v.cells.size = cs.length ∧ (∀ (j : Nat) (b : AV) (u : Value), cs[j]? = some b → (v.cells[j]? : Option Value) = some u → Cv P E b u) ∧ ∀ u ∈ v.cells.toList, u.oneCell' = true := by
  have one : isCell a = true → cs = [a] → v.cells.size = cs.length ∧ (∀ (j : Nat) (b : AV) (u : Value), cs[j]? = some b → (v.cells[j]? : Option Value) = some u → Cv P E b u) ∧ ∀ u ∈ v.cells.toList, u.oneCell' = true := by
    intro hi he
    subst he
    obtain ⟨h1, h2⟩ := isCell_one hi hc
    rw [h2]
    refine ⟨rfl, fun j b u hb hu => ?_, by simpa using h1⟩
    cases j with
    | zero => simp at hb hu; subst hb; subst hu; exact hc
    | succ j => simp at hb
  cases a <;> simp only [cellsOf] at h
  case agg l =>
    split at h
    · rename_i hall
      cases h
      cases hc with
      | agg h1 h2 =>
        refine ⟨h1, h2, fun u hu => ?_⟩
        simp only [Value.cells] at hu
        obtain ⟨j, hj, he⟩ := List.getElem_of_mem hu
        have hj' : j < cs.length := by simpa [h1] using hj
        have := h2 j cs[j] u (List.getElem?_eq_getElem hj') (by rw [Array.getElem?_eq_getElem (by simpa using hj)]; simpa using he)
        exact (isCell_one (List.all_eq_true.1 hall _ (List.getElem_mem hj')) this).1
    · cases h
  all_goals
    split at h
    · rename_i hi; cases h; exact one hi rfl
    · cases h

def aggP (P : Program) (t : TypeId) : Option Bool :=
  match P.underlying t with
  | some (.struct _) => some true
  | some (.array _ _) => some true
  | some _ => some false
  | none => none
theorem aggP_ok {P : Program} {t : TypeId} {b : Bool} (h : aggP P t = some b) (w : World) : (isAgg t).run P w = .ok b w := by
  unfold aggP at h
  split at h <;> simp at h <;> rename_i hu <;> simp [isAgg, run_underlying hu, Result.andThen, h]

def ldCells (P : Program) (t : TypeId) (cs : List AV) (K : AV → Prop) : Prop :=
  match P.info? t, aggP P t with
  | some i, some true => if i.size ≤ cs.length then K (.agg (cs.take i.size)) else False
  | some _, some false => match cs with
    | a :: _ => K a
    | [] => False
  | _, _ => False

theorem addr_add (g o n : Nat) : (⟨g, o, none⟩ : Addr).add n = ⟨g, o + n, none⟩ := by unfold Addr.add; split <;> simp_all

theorem ldCells_ok {P : Program} {t : TypeId} {cs : List AV} {K : AV → Prop} (h : ldCells P t cs K) :
    ∃ a, K a ∧ ∀ (E : En) (g o : Nat) (val : Nat → Value), (∀ j, j < cs.length → E.w.cell? ⟨g, o + j, none⟩ = some (val j)) → (∀ j b, cs[j]? = some b → Cv P E b (val j)) →
      ∃ u, (loadVar t ⟨g, o, none⟩).run P E.w = .ok u E.w ∧ Cv P E a u := by
  unfold ldCells at h
  split at h
  · rename_i i hi ha
    split at h
    · rename_i hle
      refine ⟨_, h, fun E g o val h1 h2 => ?_⟩
      have hl := run_loadCells (P := P) E.w ⟨g, o, none⟩ i.size val (fun j hj => by rw [addr_add]; exact h1 j (by omega))
      refine ⟨.agg ((List.range i.size).map val).toArray, ?_, ?_⟩
      · simp [loadVar, aggP_ok ha, sizeOf, run_typeInfo E.w hi, hl, Result.andThen]
      · refine .agg (by simp; omega) fun j b v hb hv => ?_
        by_cases hj : j < i.size
        · rw [List.getElem?_take_of_lt hj] at hb
          simp [hj] at hv
          subst hv
          exact h2 j b hb
        · simp [hj] at hv
    · exact h.elim
  · rename_i i hi ha
    split at h
    · rename_i a rest
      refine ⟨a, h, fun E g o val h1 h2 => ⟨val 0, ?_, h2 0 a (by simp)⟩⟩
      have := h1 0 (by simp)
      simp only [Nat.add_zero] at this
      simp [loadVar, aggP_ok ha, this, Result.andThen]
    · exact h.elim
  · exact h.elim

/-- What is read at an address. -/
def loadA (P : Program) (Hr : Hp) (t : TypeId) (x : AV) (K : AV → Prop) : Prop :=
  match x with
  | .ptr i o => match Hr i with
    | some (.box _ cs) => if o ≤ cs.length then ldCells P t (cs.drop o) K else False
    | _ => False
  | .ept i sz k o => match Hr i with
    | some (.arr _ sz' n get) => if Nat.beq sz sz' && Nat.ble o sz then k < n ∧ ldCells P t ((get k).drop o) K else False
    | _ => False
  | .pv cs => ldCells P t cs K
  | _ => False

theorem cv_cells {P : Program} {E : En} {cs : List AV} {vs : Array Value} {g : Nat} {t : TypeId} (hg : E.w.heap[g]? = some (.cells vs t (0, 0))) (hs : vs.size = cs.length)
    (hv : ∀ (j : Nat) (a : AV) (v : Value), cs[j]? = some a → (vs[j]? : Option Value) = some v → Cv P E a v) (o : Nat) (ho : o ≤ cs.length) :
    (∀ j, j < (cs.drop o).length → E.w.cell? ⟨g, o + j, none⟩ = some (vs.getD (o + j) undef)) ∧ (∀ j b, (cs.drop o)[j]? = some b → Cv P E b (vs.getD (o + j) undef)) := by
  have get : ∀ j, o + j < vs.size → (vs[o + j]? : Option Value) = some (vs.getD (o + j) undef) := fun j hj => by simp [Array.getD, hj]
  refine ⟨fun j hj => obj_cell hg (get j (by simp at hj; omega)), fun j b hb => ?_⟩
  rw [List.getElem?_drop] at hb
  have hlt : o + j < cs.length := (List.getElem?_eq_some_iff.1 hb).1
  exact hv _ b _ hb (get j (by omega))

theorem loadA_ok {P : Program} {Hr : Hp} {t : TypeId} {x : AV} {K : AV → Prop} (h : loadA P Hr t x K) :
    ∃ a, K a ∧ ∀ (E : En) (H : Hp) (v : Value), (∀ j b, Hr j = some b → H j = some b) → HpOk P E H → Cv P E x v → ∃ u, (Instr.loadAt t v).run P E.w = .ok u E.w ∧ Cv P E a u := by
  unfold loadA at h
  split at h
  · rename_i i o
    split at h
    · rename_i t' cs hi
      split at h
      · rename_i hle
        obtain ⟨a, hK, hr⟩ := ldCells_ok h
        refine ⟨a, hK, fun E H v hs hh hc => ?_⟩
        obtain ⟨_, _, _, vs, h1, h2, h3⟩ := hh.blk i _ (hs i _ hi)
        cases hc with
        | ptr hD =>
          obtain ⟨q1, q2⟩ := cv_cells h1 h2 h3 o hle
          obtain ⟨u, hu, hcu⟩ := hr E (E.β i) o _ q1 q2
          exact ⟨u, by simpa [Instr.loadAt, Instr.sureAddr] using hu, hcu⟩
      · exact h.elim
    · exact h.elim
  · rename_i i sz k o
    split at h
    · rename_i e sz' n get hi
      split at h
      · rename_i hb
        simp only [Bool.and_eq_true] at hb
        obtain rfl := Nat.eq_of_beq_eq_true hb.1
        have hle := Nat.le_of_ble_eq_true hb.2
        obtain ⟨hk, h⟩ := h
        obtain ⟨a, hK, hr⟩ := ldCells_ok h
        refine ⟨a, hK, fun E H v hs hh hc => ?_⟩
        obtain ⟨_, _, _, vs, h1, h2, h3, h4, h5⟩ := hh.blk i _ (hs i _ hi)
        cases hc with
        | ept hD =>
          have hlen := h3 k hk
          have hb1 : k * sz + sz ≤ vs.size := by
            have : (k + 1) * sz ≤ n * sz := Nat.mul_le_mul_right _ hk
            rw [Nat.succ_mul] at this
            omega
          have get' : ∀ j, o + j < sz → (vs[k * sz + (o + j)]? : Option Value) = some (vs.getD (k * sz + o + j) undef) := fun j hj => by
            rw [show k * sz + (o + j) = k * sz + o + j from by omega]
            simp [Array.getD, show k * sz + o + j < vs.size by omega]
          obtain ⟨u, hu, hcu⟩ := hr E (E.β i) (k * sz + o) (fun j => vs.getD (k * sz + o + j) undef)
            (fun j hj => obj_cell h1 (by rw [← get' j (by simp at hj; omega)]; congr 1; omega))
            (fun j b hb => by
              rw [List.getElem?_drop] at hb
              have hlt : o + j < (get k).length := (List.getElem?_eq_some_iff.1 hb).1
              exact h4 k (o + j) b _ hk hb (get' j (by omega)))
          exact ⟨u, by simpa [Instr.loadAt, Instr.sureAddr] using hu, hcu⟩
      · exact h.elim
    · exact h.elim
  · rename_i cs
    obtain ⟨a, hK, hr⟩ := ldCells_ok h
    refine ⟨a, hK, fun E H v hs hh hc => ?_⟩
    cases hc with
    | @pv _ g o val hg hM hc hv =>
      obtain ⟨u, hu, hcu⟩ := hr E g o val hc hv
      exact ⟨u, by simpa [Instr.loadAt, Instr.sureAddr] using hu, hcu⟩
  · exact h.elim

/-! ### 4. Operations that compute -/
def binInt (op : BinOp) (k : IntKind) (a b : Int) (K : AV → Prop) : Prop :=
  match op with
  | .add => K (.int k (k.wrap (a + b)))
  | .sub => K (.int k (k.wrap (a - b)))
  | .mul => K (.int k (k.wrap (a * b)))
  | .quo => b ≠ 0 ∧ K (.int k (k.wrap (a.tdiv b)))
  | .rem => b ≠ 0 ∧ K (.int k (a.tmod b))
  | .and => K (.int k (k.wrap (BitVec.ofInt k.bits a &&& BitVec.ofInt k.bits b).toNat))
  | .or => K (.int k (k.wrap (BitVec.ofInt k.bits a ||| BitVec.ofInt k.bits b).toNat))
  | .xor => K (.int k (k.wrap (BitVec.ofInt k.bits a ^^^ BitVec.ofInt k.bits b).toNat))
  | .eql => K (.bool (a == b))
  | .neq => K (.bool (a != b))
  | .lss => K (.bool (decide (a < b)))
  | .leq => K (.bool (decide (a ≤ b)))
  | .gtr => K (.bool (decide (a > b)))
  | .geq => K (.bool (decide (a ≥ b)))
  | _ => False
def shiftA (op : BinOp) (k : IntKind) (a b : Int) (K : AV → Prop) : Prop :=
  match op with
  | .shl => 0 ≤ b ∧ K (.int k (k.wrap (a * 2 ^ (min b.toNat k.bits))))
  | .shr => 0 ≤ b ∧ K (.int k (a.fdiv (2 ^ (min b.toNat k.bits))))
  | _ => False
def binStr (op : BinOp) (a b : ByteArray) (K : AV → Prop) : Prop :=
  match op with
  | .add => ((a.size + b.size : Nat) : Int) ≤ 9223372036854775807 ∧ K (.str (a ++ b))
  | .eql => K (.bool (a.toList == b.toList))
  | .neq => K (.bool !(a.toList == b.toList))
  | .lss => K (.bool (Op.bytesLess a.toList b.toList))
  | .leq => K (.bool (Op.bytesLess a.toList b.toList || a.toList == b.toList))
  | .gtr => K (.bool !(Op.bytesLess a.toList b.toList || a.toList == b.toList))
  | .geq => K (.bool !(Op.bytesLess a.toList b.toList))
  | _ => False
/-- Whatever is not told elsewhere: by a fact of one's own. -/
def SameOb (P : Program) (o : Oper) (τ : Operand → AV) (a : AV) : Prop :=
  ∀ (E : En) (ρ : Operand → Value), (∀ x ∈ o.op.operands, Cv P E (τ x) (ρ x)) → ∃ v, (execOp ρ o).run P E.w = .ok (.value v) E.w ∧ Cv P E a v

def isShift : BinOp → Bool
  | .shl | .shr => true
  | _ => false
def boolB (P : Program) (t : TypeId) : Bool := match P.underlying t with | some .bool => true | _ => false
def ptrB (P : Program) (t : TypeId) : Bool := match P.underlying t with | some (.pointer _) => true | _ => false
def ptrK (op : BinOp) (b : Bool) (K : AV → Prop) : Prop := match op with | .eql => K (.bool b) | .neq => K (.bool !b) | _ => False
def binA (P : Program) (o : Oper) (τ : Operand → AV) (op : BinOp) (t : TypeId) (x y : AV) (K : AV → Prop) : Prop :=
  match x, y with
  | .int k a, .int k' b => if isShift op then shiftA op k a b K else if k = k' then binInt op k a b K else False
  | .str a, .str b => binStr op a b K
  | .bool a, .bool b => if boolB P t then ptrK op (a == b) K else False
  | .ptr .., .nilp | .ept .., .nilp | .pv _, .nilp => if ptrB P t then ptrK op false K else False
  | .nilp, .nilp => if ptrB P t then ptrK op true K else False
  | _, _ => ∃ a, SameOb P o τ a ∧ K a

theorem binInt_ok {P : Program} {op : BinOp} {k : IntKind} {a b : Int} {K : AV → Prop} (h : binInt op k a b K) (hs : isShift op = false) :
    ∃ r, K r ∧ ∀ (E : En) (t : TypeId), ∃ v, (binOp op t (.int k a) (.int k b)).run P E.w = .ok v E.w ∧ Cv P E r v := by
  cases op <;> simp only [binInt] at h <;> simp [isShift] at hs <;>
    first
      | exact h.elim
      | (refine ⟨_, h, fun E t => ⟨_, by simp [binOp, Op.intArith, Op.intBits, Op.intCmp]; rfl, by constructor⟩⟩; done)
      | (refine ⟨_, h.2, fun E t => ⟨_, by simp [binOp, Op.intDiv, h.1]; rfl, by constructor⟩⟩; done)
theorem shiftA_ok {P : Program} {op : BinOp} {k k' : IntKind} {a b : Int} {K : AV → Prop} (h : shiftA op k a b K) :
    ∃ r, K r ∧ ∀ (E : En) (t : TypeId), ∃ v, (binOp op t (.int k a) (.int k' b)).run P E.w = .ok v E.w ∧ Cv P E r v := by
  cases op <;> simp only [shiftA] at h <;>
    first
      | exact h.elim
      | (refine ⟨_, h.2, fun E t => ⟨_, by simp [binOp, Op.shift, show ¬ b < 0 by omega]; rfl, by constructor⟩⟩; done)
theorem binStr_ok {P : Program} {op : BinOp} {a b : ByteArray} {K : AV → Prop} (h : binStr op a b K) :
    ∃ r, K r ∧ ∀ (E : En) (t : TypeId), ∃ v, (binOp op t (.string a) (.string b)).run P E.w = .ok v E.w ∧ Cv P E r v := by
  cases op <;> simp only [binStr] at h <;> try exact h.elim
  case add =>
    refine ⟨_, h.2, fun E t => ⟨_, ?_, .str _⟩⟩
    have h1 := h.1
    have : IntKind.i64.max = 9223372036854775807 := by rfl
    simp only [binOp, Op.stringOp, this]
    rw [if_neg (by omega)]
    rfl
  all_goals exact ⟨_, h, fun E t => ⟨_, rfl, .bool _⟩⟩
theorem eqGuard_plain {P : Program} {op : BinOp} {t : TypeId} {x y : Operand} {a b : Value} (w : World) (h1 : a ≠ .nilIface) (h2 : ∀ cs, a ≠ .agg cs) :
    (eqGuard op t x y a b).run P w = .ok () w := by
  unfold eqGuard
  cases a <;> first | exact absurd rfl h1 | exact absurd rfl (h2 _) | (cases op <;> simp)
theorem execOp_bin {P : Program} {o : Oper} {ρ : Operand → Value} {op : BinOp} {t yt : TypeId} {x y : Operand} (ho : o.op = .binOp op t x y yt) {w : World} {v : Value} (h1 : ρ x ≠ .nilIface) (h2 : ∀ cs, ρ x ≠ .agg cs)
    (h : (binOp op t (ρ x) (ρ y)).run P w = .ok v w) : (execOp ρ o).run P w = .ok (.value v) w := by
  simp [execOp, ho, eqGuard_plain w h1 h2, h, Result.andThen]

theorem equal_ptr_nil {P : Program} {t e : TypeId} (hu : P.underlying t = some (.pointer e)) (ad : Option Addr) (w : World) : (Op.equal t (.pointer ad) (.pointer none)).run P w = .ok ad.isNone w := by
  show (Op.equalIn (9999 + 1) t _ _).run P w = _
  rw [Op.equalIn]
  simp only [Sem.run_bind, run_underlying hu, Result.andThen_ok]
  cases ad <;> rfl
theorem equal_bool {P : Program} {t : TypeId} (hu : P.underlying t = some .bool) (a b : Bool) (w : World) : (Op.equal t (.bool a) (.bool b)).run P w = .ok (a == b) w := by
  show (Op.equalIn (9999 + 1) t _ _).run P w = _
  rw [Op.equalIn]
  simp only [Sem.run_bind, run_underlying hu, Result.andThen_ok]
  rfl

theorem binA_ok {P : Program} {o : Oper} {τ : Operand → AV} {op : BinOp} {t yt : TypeId} {x y : Operand} {K : AV → Prop} (ho : o.op = .binOp op t x y yt) (h : binA P o τ op t (τ x) (τ y) K) :
    ∃ a, K a ∧ SameOb P o τ a := by
  have ops : ∀ (E : En) (ρ : Operand → Value), (∀ z ∈ o.op.operands, Cv P E (τ z) (ρ z)) → Cv P E (τ x) (ρ x) ∧ Cv P E (τ y) (ρ y) := fun E ρ hr => by
    rw [ho] at hr
    exact ⟨hr x (by simp [Op.operands]), hr y (by simp [Op.operands])⟩
  have ptrs : ∀ (b : Bool), ptrB P t = true → (∀ E v, Cv P E (τ x) v → ∃ ad, v = .pointer ad ∧ ad.isNone = b) → τ y = .nilp → ptrK op b K → ∃ a, K a ∧ SameOb P o τ a := by
    intro b hp hX hY hk
    unfold ptrB at hp
    split at hp
    · rename_i e hu
      have key : ∀ (E : En) (ρ : Operand → Value), (∀ z ∈ o.op.operands, Cv P E (τ z) (ρ z)) → (ρ x ≠ .nilIface ∧ ∀ cs, ρ x ≠ .agg cs) ∧ ∃ ad, ρ x = .pointer ad ∧ ρ y = .pointer none ∧ (Op.equal t (.pointer ad) (.pointer none)).run P E.w = .ok b E.w := by
        intro E ρ hr
        obtain ⟨h1, h2⟩ := ops E ρ hr
        obtain ⟨ad, e1, e2⟩ := hX E _ h1
        rw [hY] at h2
        have e3 : ρ y = .pointer none := by
          generalize ρ y = q at h2
          cases h2
          rfl
        refine ⟨⟨by rw [e1]; simp, by rw [e1]; simp⟩, ad, e1, e3, ?_⟩
        rw [← e2]
        exact equal_ptr_nil hu ad E.w
      unfold ptrK at hk
      cases op <;> simp at hk
      case eql =>
        refine ⟨_, hk, fun E ρ hr => ?_⟩
        obtain ⟨⟨n1, n2⟩, ad, e1, e2, e3⟩ := key E ρ hr
        exact ⟨.bool b, execOp_bin ho n1 n2 (by rw [e1, e2]; simp [binOp, e3, Result.andThen]), .bool b⟩
      case neq =>
        refine ⟨_, hk, fun E ρ hr => ?_⟩
        obtain ⟨⟨n1, n2⟩, ad, e1, e2, e3⟩ := key E ρ hr
        exact ⟨.bool !b, execOp_bin ho n1 n2 (by rw [e1, e2]; simp [binOp, e3, Result.andThen]), .bool _⟩
    · cases hp
  unfold binA at h
  generalize hx : τ x = X at h
  generalize hy : τ y = Y at h
  split at h
  · rename_i k a k' b
    split at h
    · obtain ⟨r, hK, hr⟩ := shiftA_ok (P := P) (k' := k') h
      refine ⟨r, hK, fun E ρ hρ => ?_⟩
      obtain ⟨h1, h2⟩ := ops E ρ hρ
      rw [hx] at h1; rw [hy] at h2
      have e1 : ρ x = .int k a := by generalize ρ x = q at h1; cases h1; rfl
      have e2 : ρ y = .int k' b := by generalize ρ y = q at h2; cases h2; rfl
      obtain ⟨v, hv, hc⟩ := hr E t
      exact ⟨v, execOp_bin ho (by rw [e1]; simp) (by rw [e1]; simp) (by rw [e1, e2]; exact hv), hc⟩
    · rename_i hs
      split at h
      · rename_i hk
        subst hk
        obtain ⟨r, hK, hr⟩ := binInt_ok (P := P) h (by simpa using hs)
        refine ⟨r, hK, fun E ρ hρ => ?_⟩
        obtain ⟨h1, h2⟩ := ops E ρ hρ
        rw [hx] at h1; rw [hy] at h2
        have e1 : ρ x = .int k a := by generalize ρ x = q at h1; cases h1; rfl
        have e2 : ρ y = .int k b := by generalize ρ y = q at h2; cases h2; rfl
        obtain ⟨v, hv, hc⟩ := hr E t
        exact ⟨v, execOp_bin ho (by rw [e1]; simp) (by rw [e1]; simp) (by rw [e1, e2]; exact hv), hc⟩
      · exact h.elim
  · rename_i a b
    obtain ⟨r, hK, hr⟩ := binStr_ok (P := P) h
    refine ⟨r, hK, fun E ρ hρ => ?_⟩
    obtain ⟨h1, h2⟩ := ops E ρ hρ
    rw [hx] at h1; rw [hy] at h2
    have e1 : ρ x = .string a := by generalize ρ x = q at h1; cases h1; rfl
    have e2 : ρ y = .string b := by generalize ρ y = q at h2; cases h2; rfl
    obtain ⟨v, hv, hc⟩ := hr E t
    exact ⟨v, execOp_bin ho (by rw [e1]; simp) (by rw [e1]; simp) (by rw [e1, e2]; exact hv), hc⟩
  · rename_i a b
    split at h
    · rename_i hb
      unfold boolB at hb
      split at hb
      · rename_i hu
        have key : ∀ (E : En) (ρ : Operand → Value), (∀ z ∈ o.op.operands, Cv P E (τ z) (ρ z)) → ρ x = .bool a ∧ ρ y = .bool b ∧ (Op.equal t (.bool a) (.bool b)).run P E.w = .ok (a == b) E.w := by
          intro E ρ hr
          obtain ⟨h1, h2⟩ := ops E ρ hr
          rw [hx] at h1; rw [hy] at h2
          refine ⟨by generalize ρ x = q at h1; cases h1; rfl, by generalize ρ y = q at h2; cases h2; rfl, ?_⟩
          exact equal_bool hu a b E.w
        unfold ptrK at h
        cases op <;> simp at h
        case eql =>
          refine ⟨_, h, fun E ρ hr => ?_⟩
          obtain ⟨e1, e2, e3⟩ := key E ρ hr
          exact ⟨.bool (a == b), execOp_bin ho (by rw [e1]; simp) (by rw [e1]; simp) (by rw [e1, e2]; simp [binOp, e3, Result.andThen]), .bool _⟩
        case neq =>
          refine ⟨_, h, fun E ρ hr => ?_⟩
          obtain ⟨e1, e2, e3⟩ := key E ρ hr
          exact ⟨.bool !(a == b), execOp_bin ho (by rw [e1]; simp) (by rw [e1]; simp) (by rw [e1, e2]; simp [binOp, e3, Result.andThen]), .bool _⟩
      · cases hb
    · exact h.elim
  · split at h
    · rename_i hp; exact ptrs false hp (fun E v hc => by rw [hx] at hc; cases hc; exact ⟨_, rfl, rfl⟩) hy h
    · exact h.elim
  · split at h
    · rename_i hp; exact ptrs false hp (fun E v hc => by rw [hx] at hc; cases hc; exact ⟨_, rfl, rfl⟩) hy h
    · exact h.elim
  · split at h
    · rename_i hp; exact ptrs false hp (fun E v hc => by rw [hx] at hc; cases hc; exact ⟨_, rfl, rfl⟩) hy h
    · exact h.elim
  · split at h
    · rename_i hp; exact ptrs true hp (fun E v hc => by rw [hx] at hc; cases hc; exact ⟨_, rfl, rfl⟩) hy h
    · exact h.elim
  · obtain ⟨a, h1, h2⟩ := h
    exact ⟨a, h2, h1⟩

/-! ### 5. Addresses, slices, parts -/
def szPos (P : Program) (t : TypeId) : Bool := match P.info? t with | some i => Nat.blt 0 i.size | none => false
def szIs (P : Program) (t : TypeId) (n : Nat) : Bool := match P.info? t with | some i => Nat.beq i.size n | none => false
theorem szPos_ok {P : Program} {t : TypeId} (h : szPos P t = true) (w : World) : ∃ n, 0 < n ∧ (sizeOf t).run P w = .ok n w := by
  unfold szPos at h
  split at h
  · rename_i i hi
    exact ⟨i.size, by simpa [Nat.blt_eq] using h, by simp [sizeOf, run_typeInfo w hi, Result.andThen]⟩
  · cases h
theorem szIs_ok {P : Program} {t : TypeId} {n : Nat} (h : szIs P t n = true) (w : World) : (sizeOf t).run P w = .ok n w := by
  unfold szIs at h
  split at h
  · rename_i i hi
    obtain rfl := Nat.eq_of_beq_eq_true h
    simp [sizeOf, run_typeInfo w hi, Result.andThen]
  · cases h

def hasSz (P : Program) (t : TypeId) : Bool := (P.info? t).isSome
theorem hasSz_ok {P : Program} {t : TypeId} (h : hasSz P t = true) (w : World) : ∃ n, (sizeOf t).run P w = .ok n w := by
  obtain ⟨i, hi⟩ := Option.isSome_iff_exists.1 h
  exact ⟨i.size, by simp [sizeOf, run_typeInfo w hi, Result.andThen]⟩
def fieldA (P : Program) (s : TypeId) (x : AV) (k : Nat) (K : AV → Prop) : Prop :=
  match P.underlying s with
  | some (.struct fs) => match fs[k]? with
    | some f => if szPos P f.type then
        (match x with
          | .ptr i o => K (.ptr i (o + f.offset))
          | .ept i sz j o => K (.ept i sz j (o + f.offset))
          | .pv cs => K (.pv (cs.drop f.offset))
          | _ => False)
        else False
    | none => False
  | _ => False
theorem fieldA_ok {P : Program} {s : TypeId} {x : AV} {k : Nat} {K : AV → Prop} (h : fieldA P s x k K) :
    ∃ a, K a ∧ ∀ (E : En) (v : Value), Cv P E x v → ∃ u, (Instr.fieldAt s v k).run P E.w = .ok u E.w ∧ Cv P E a u := by
  unfold fieldA at h
  split at h
  · rename_i fs hu
    split at h
    · rename_i f hf
      split at h
      · rename_i hp
        have run : ∀ (w : World) (g o : Nat), (Instr.fieldAt s (.pointer (some ⟨g, o, none⟩)) k).run P w = .ok (.pointer (some ⟨g, o + f.offset, none⟩)) w := by
          intro w g o
          obtain ⟨n, hn, hs⟩ := szPos_ok hp w
          simp [Instr.fieldAt, run_underlying hu, hf, Instr.sureAddr, fieldPlace, hs, Result.andThen, show n ≠ 0 by omega, addr_add]
        split at h
        · exact ⟨_, h, fun E v hc => by cases hc with | ptr hD => exact ⟨_, run _ _ _, .ptr hD⟩⟩
        · refine ⟨_, h, fun E v hc => ?_⟩
          cases hc with | ept hD => exact ⟨_, run _ _ _, by rw [Nat.add_assoc]; exact .ept hD⟩
        · refine ⟨_, h, fun E v hc => ?_⟩
          cases hc with
          | @pv cs g o val hg hM hc hv =>
            refine ⟨_, run _ _ _, .pv (fun j => val (f.offset + j)) hg hM (fun j hj => ?_) (fun j a ha => ?_)⟩
            · rw [Nat.add_assoc]; exact hc _ (by simp at hj; omega)
            · rw [List.getElem?_drop] at ha; exact hv _ a ha
        · exact h.elim
      · exact h.elim
    · exact h.elim
  · exact h.elim

def indexAddrA (P : Program) (t : TypeId) (x i : AV) (K : AV → Prop) : Prop :=
  match P.underlying t, i with
  | some (.slice e), .int _ n => (match x with
    | .ro _ sz m get => if szIs P e sz then (0 ≤ n ∧ n < (m : Int)) ∧ K (.pv (get n.toNat)) else False
    | .own id sz off m => if szIs P e sz then (0 ≤ n ∧ n < (m : Int)) ∧ K (.ept id sz (off + n.toNat) 0) else False
    | _ => False)
  | some (.array len e), .int _ n => (match P.info? e, x with
    | some j, .ptr id o => (0 ≤ n ∧ n < (len : Int)) ∧ K (.ptr id (o + n.toNat * j.size))
    | some j, .pv cs => (0 ≤ n ∧ n < (len : Int)) ∧ K (.pv (cs.drop (n.toNat * j.size)))
    | _, _ => False)
  | _, _ => False
theorem indexAddrA_ok {P : Program} {t : TypeId} {x i : AV} {K : AV → Prop} (h : indexAddrA P t x i K) :
    ∃ a, K a ∧ ∀ (E : En) (v u : Value), Cv P E x v → Cv P E i u → ∃ r, (Instr.indexAt t v u).run P E.w = .ok r E.w ∧ Cv P E a r := by
  unfold indexAddrA at h
  split at h
  · rename_i e k n hu
    have run : ∀ (w : World) (g o c sz : Nat) (m : Nat), szIs P e sz = true → 0 ≤ n → n < (m : Int) →
        (Instr.indexAt t (.slice (some ⟨g, o, none⟩) m c) (.int k n)).run P w = .ok (.pointer (some ⟨g, o + n.toNat * sz, none⟩)) w := by
      intro w g o c sz m hz h0 h1
      simp [Instr.indexAt, asIntOf, run_underlying hu, Result.andThen, h0, h1, szIs_ok hz w, addr_add]
    split at h
    · rename_i b sz m get
      split at h
      · rename_i hz
        obtain ⟨⟨h0, h1⟩, h⟩ := h
        refine ⟨_, h, fun E v u hv hu' => ?_⟩
        cases hu'
        cases hv with
        | ro val hc hA hl hv hb =>
          obtain ⟨g, o, rfl, hg, hM, hcell⟩ := hA (by omega)
          refine ⟨_, run _ _ _ _ _ _ hz h0 h1, .pv (fun j => val n.toNat j) hg hM (fun j hj => ?_) (fun j a ha => hv _ j a (by omega) ha)⟩
          exact hcell n.toNat j (by omega) (by rw [hl _ (by omega)] at hj; exact hj)
      · exact h.elim
    · rename_i id sz off m
      split at h
      · rename_i hz
        obtain ⟨⟨h0, h1⟩, h⟩ := h
        refine ⟨_, h, fun E v u hv hu' => ?_⟩
        cases hu'
        cases hv with
        | own hD hc hA hs hm =>
          obtain ⟨o', rfl, ho⟩ := hA
          obtain rfl := ho (.inl (by omega))
          refine ⟨_, run _ _ _ _ _ _ hz h0 h1, ?_⟩
          rw [← Nat.add_mul]
          exact .ept hD
      · exact h.elim
    · exact h.elim
  · rename_i len e k n hu
    split at h
    · rename_i j id o hi
      obtain ⟨⟨h0, h1⟩, h⟩ := h
      refine ⟨_, h, fun E v u hv hu' => ?_⟩
      cases hu'
      cases hv with
      | ptr hD =>
        refine ⟨_, ?_, .ptr hD⟩
        simp [Instr.indexAt, asIntOf, run_underlying hu, Result.andThen, h0, h1, Instr.sureAddr, sizeOf, run_typeInfo E.w hi, addr_add]
    · rename_i j cs hi
      obtain ⟨⟨h0, h1⟩, h⟩ := h
      refine ⟨_, h, fun E v u hv hu' => ?_⟩
      cases hu'
      cases hv with
      | @pv _ g o val hg hM hc hv =>
        refine ⟨.pointer (some ⟨g, o + n.toNat * j.size, none⟩), ?_, .pv (fun q => val (n.toNat * j.size + q)) hg hM (fun q hq => ?_) (fun q a ha => ?_)⟩
        · simp [Instr.indexAt, asIntOf, run_underlying hu, Result.andThen, h0, h1, Instr.sureAddr, sizeOf, run_typeInfo E.w hi, addr_add]
        · rw [Nat.add_assoc]; exact hc _ (by simp at hq; omega)
        · rw [List.getElem?_drop] at ha; exact hv _ a ha
    · exact h.elim
  · exact h.elim

def boundA (τ : Operand → AV) (d : Nat) : Option Operand → Option Int
  | none => some d
  | some x => match τ x with
    | .int _ n => some n
    | _ => none
def sliceA (P : Program) (t : TypeId) (τ : Operand → AV) (x : AV) (lo hi mx : Option Operand) (K : AV → Prop) : Prop :=
  match P.underlying t, x, mx with
  | some .string, .str s, none => (match boundA τ 0 lo, boundA τ s.size hi with
    | some l, some h => (0 ≤ l ∧ l ≤ h ∧ h ≤ (s.size : Int)) ∧ K (.str (s.extract l.toNat h.toNat))
    | _, _ => False)
  | some (.slice e), .ro b sz n get, none => (match boundA τ 0 lo, boundA τ n hi with
    | some l, some h => if szIs P e sz then (0 ≤ l ∧ l ≤ h ∧ h ≤ (n : Int)) ∧ K (.ro b sz (h.toNat - l.toNat) fun i => get (l.toNat + i)) else False
    | _, _ => False)
  | some (.slice e), .own id sz off n, none => (match boundA τ 0 lo, boundA τ n hi with
    | some l, some h => if szIs P e sz then (0 ≤ l ∧ l ≤ h ∧ h ≤ (n : Int)) ∧ K (.own id sz (off + l.toNat) (h.toNat - l.toNat)) else False
    | _, _ => False)
  | some (.slice e), .emp, none => (match boundA τ 0 lo, boundA τ 0 hi with
    | some l, some h => if hasSz P e then (l = 0 ∧ h = 0) ∧ K .emp else False
    | _, _ => False)
  | _, _, _ => False

theorem bounds_run {P : Program} {w : World} {isS : Bool} {n c : Nat} {τ : Operand → AV} {ρ : Operand → Value} {E : En} {lo hi : Option Operand} {l h : Int}
    (hlo : boundA τ 0 lo = some l) (hhi : boundA τ n hi = some h) (hcl : ∀ x, lo = some x → Cv P E (τ x) (ρ x)) (hch : ∀ x, hi = some x → Cv P E (τ x) (ρ x))
    (h0 : 0 ≤ l) (h1 : l ≤ h) (h2 : h ≤ (n : Int)) (hc : n ≤ c) :
    (Instr.sliceBounds isS n c (lo.map ρ) (hi.map ρ) none).run P w = .ok (l.toNat, h.toNat, c) w := by
  have hv : ∀ x d q, boundA τ d (some x) = some q → Cv P E (τ x) (ρ x) → ∃ k, ρ x = .int k q := by
    intro x d q hq hcv
    simp only [boundA] at hq
    generalize τ x = X at hq hcv
    generalize ρ x = R at hcv
    cases X <;> simp at hq
    subst hq
    cases hcv
    exact ⟨_, rfl⟩
  have hL : l = 0 ∧ lo = none ∨ ∃ x k, lo = some x ∧ ρ x = .int k l := by
    cases lo with
    | none => simp [boundA] at hlo; exact .inl ⟨hlo.symm, rfl⟩
    | some x => obtain ⟨k, hk⟩ := hv x 0 l hlo (hcl x rfl); exact .inr ⟨x, k, rfl, hk⟩
  have hH : h = (n : Int) ∧ hi = none ∨ ∃ x k, hi = some x ∧ ρ x = .int k h := by
    cases hi with
    | none => simp [boundA] at hhi; exact .inl ⟨hhi.symm, rfl⟩
    | some x => obtain ⟨k, hk⟩ := hv x n h hhi (hch x rfl); exact .inr ⟨x, k, rfl, hk⟩
  have b1 : ∀ (k : IntKind) (q : Int) (y : Nat) (code : BoundsCode), 0 ≤ q → q ≤ (y : Int) → (Instr.sliceBound (.int k q) y code).run P w = .ok q.toNat w := by
    intro k q y code p1 p2
    simp [Instr.sliceBound, asIntOf, p1, p2, Result.andThen]
  rcases hL with ⟨rfl, rfl⟩ | ⟨x, k, rfl, hk⟩ <;> rcases hH with ⟨rfl, rfl⟩ | ⟨y, k', rfl, hk'⟩
  · simp [Instr.sliceBounds, Result.andThen]
  · simp [Instr.sliceBounds, Result.andThen, hk', b1 k' h c _ (by omega) (by omega)]
  · simp [Instr.sliceBounds, Result.andThen, hk, b1 k l n _ h0 h1]
  · simp [Instr.sliceBounds, Result.andThen, hk, hk', b1 k' h c _ (by omega) (by omega), b1 k l h.toNat _ h0 (by omega)]

theorem sliceA_ok {P : Program} {t : TypeId} {τ : Operand → AV} {x : AV} {lo hi mx : Option Operand} {K : AV → Prop} (h : sliceA P t τ x lo hi mx K) :
    ∃ a, K a ∧ ∀ (E : En) (ρ : Operand → Value) (v : Value), Cv P E x v → (∀ z, lo = some z → Cv P E (τ z) (ρ z)) → (∀ z, hi = some z → Cv P E (τ z) (ρ z)) →
      ∃ r, (Instr.sliceAt t v (lo.map ρ) (hi.map ρ) (mx.map ρ)).run P E.w = .ok r E.w ∧ Cv P E a r := by
  unfold sliceA at h
  split at h
  · rename_i s hu
    split at h
    · rename_i l hh e1 e2
      obtain ⟨⟨h0, h1, h2⟩, h⟩ := h
      refine ⟨_, h, fun E ρ v hv c1 c2 => ?_⟩
      cases hv
      refine ⟨_, ?_, .str _⟩
      have := bounds_run (P := P) (w := E.w) (isS := false) (c := s.size) e1 e2 c1 c2 h0 h1 h2 (Nat.le_refl _)
      simp [Instr.sliceAt, run_underlying hu, Instr.slice, this, Result.andThen]
    · exact h.elim
  · rename_i e b sz n get hu
    split at h
    · rename_i l hh e1 e2
      split at h
      · rename_i hz
        obtain ⟨⟨h0, h1, h2⟩, h⟩ := h
        refine ⟨_, h, fun E ρ v hv c1 c2 => ?_⟩
        cases hv with
        | @ro _ _ _ _ A c val hc hA hl hv hb =>
          have := bounds_run (P := P) (w := E.w) (isS := true) (c := c) e1 e2 c1 c2 h0 h1 h2 hc
          refine ⟨.slice (if c = l.toNat then A else A.map (·.add (l.toNat * sz))) (hh.toNat - l.toNat) (c - l.toNat), ?_, ?_⟩
          · simp [Instr.sliceAt, run_underlying hu, Instr.slice, this, szIs_ok hz E.w, Result.andThen]
          · refine .ro (fun i j => val (l.toNat + i) j) (by omega) (fun hp => ?_) (fun i hi => hl _ (by omega)) (fun i j a hi ha => hv _ j a (by omega) ha) (fun hb' => ?_)
            · have hcl : ¬ c = l.toNat := by omega
              have hin : ∀ i, i < hh.toNat - l.toNat → l.toNat + i < n := fun i hi => by omega
              obtain ⟨g, o, rfl, hg, hM, hcell⟩ := hA (by omega)
              refine ⟨g, o + l.toNat * sz, ?_, hg, hM, fun i j hi hj => ?_⟩
              · rw [if_neg hcl]; simp [addr_add]
              · have := hcell (l.toNat + i) j (hin i hi) hj
                rw [Nat.add_mul] at this
                rw [← this]
                congr 2
                omega
            · rcases hb hb' with hb | ⟨g, o, cs, t', rfl, q1, q2, q3, q4, q5⟩
              · exact .inl (by omega)
              · by_cases hcl : c = l.toNat
                · exact .inl (by omega)
                · refine .inr ⟨g, o + l.toNat * sz, cs, t', by rw [if_neg hcl]; simp [addr_add], q1, q2, q3, ?_, q5⟩
                  have : l.toNat ≤ c := by omega
                  rw [Nat.add_assoc, ← Nat.add_mul, show l.toNat + (c - l.toNat) = c by omega]
                  exact q4
      · exact h.elim
    · exact h.elim
  · rename_i e id sz off n hu
    split at h
    · rename_i l hh e1 e2
      split at h
      · rename_i hz
        obtain ⟨⟨h0, h1, h2⟩, h⟩ := h
        refine ⟨_, h, fun E ρ v hv c1 c2 => ?_⟩
        cases hv with
        | @own _ _ _ _ c A hD hc hA hs hm =>
          have := bounds_run (P := P) (w := E.w) (isS := true) (c := c) e1 e2 c1 c2 h0 h1 h2 hc
          refine ⟨.slice (if c = l.toNat then A else A.map (·.add (l.toNat * sz))) (hh.toNat - l.toNat) (c - l.toNat), ?_, ?_⟩
          · simp [Instr.sliceAt, run_underlying hu, Instr.slice, this, szIs_ok hz E.w, Result.andThen]
          · refine .own hD (by omega) ?_ ?_ (by omega)
            · obtain ⟨o', rfl, ho⟩ := hA
              by_cases hcl : c = l.toNat
              · refine ⟨o', by rw [if_pos hcl], fun hp => ?_⟩
                rcases hp with hp | hp
                · omega
                · rw [ho (.inr (by omega)), show off = 0 by omega, show l.toNat = 0 by omega]
              · refine ⟨o' + l.toNat * sz, by rw [if_neg hcl]; simp [addr_add], fun _ => ?_⟩
                rw [ho (.inl (by omega)), Nat.add_mul]
            · obtain ⟨cs, t', q1, q2⟩ := hs
              refine ⟨cs, t', q1, ?_⟩
              rw [← q2]
              congr 1
              omega
      · exact h.elim
    · exact h.elim
  · rename_i e hu
    split at h
    · rename_i l hh e1 e2
      split at h
      case isFalse => exact h.elim
      rename_i hsz
      obtain ⟨⟨rfl, rfl⟩, h⟩ := h
      refine ⟨_, h, fun E ρ v hv c1 c2 => ?_⟩
      cases hv with
      | emp =>
        have := bounds_run (P := P) (w := E.w) (isS := true) (n := 0) (c := 0) e1 e2 c1 c2 (by omega) (by omega) (by omega) (by omega)
        refine ⟨.slice none 0 0, ?_, .emp⟩
        obtain ⟨k, hk⟩ := hasSz_ok hsz E.w
        simp [Instr.sliceAt, run_underlying hu, Instr.slice, this, hk, Result.andThen]
    · exact h.elim
  · exact h.elim

/-! ### 6. Values taken apart and put together -/
def byteAt (s : ByteArray) (i : Nat) : Int := if h : i < s.size then ((s[i]'h).toNat : Int) else 0
/-- A part of an aggregate: 'n' cells from 'o' on, of type t. -/
def partA (P : Program) (t : TypeId) (cs : List AV) (o : Nat) (K : AV → Prop) : Prop :=
  match P.info? t, aggP P t with
  | some i, some true => K (.agg ((cs.drop o).take i.size))
  | some _, some false => match cs[o]? with
    | some a => K a
    | none => False
  | _, _ => False
theorem partA_ok {P : Program} {t : TypeId} {cs : List AV} {o : Nat} {K : AV → Prop} (h : partA P t cs o K) :
    ∃ a, K a ∧ ∀ (E : En) (vs : Array Value), Cv P E (.agg cs) (.agg vs) → ∃ u, (part t vs o).run P E.w = .ok u E.w ∧ Cv P E a u := by
  unfold partA at h
  split at h
  · rename_i i hi ha
    refine ⟨_, h, fun E vs hc => ?_⟩
    cases hc with
    | agg h1 h2 =>
      refine ⟨.agg (vs.extract o (o + i.size)), by simp [part, aggP_ok ha, sizeOf, run_typeInfo E.w hi, Result.andThen], .agg (by simp; omega) fun j a v hj hv => ?_⟩
      rw [Array.getElem?_extract] at hv
      split at hv
      · rename_i hlt
        rw [List.getElem?_take_of_lt (by omega), List.getElem?_drop] at hj
        exact h2 _ a v hj hv
      · cases hv
  · rename_i i hi ha
    split at h
    · rename_i a hcs
      refine ⟨a, h, fun E vs hc => ?_⟩
      cases hc with
      | agg h1 h2 =>
        have hlt : o < vs.size := by have := (List.getElem?_eq_some_iff.1 hcs).1; omega
        refine ⟨vs[o], by simp [part, aggP_ok ha, hlt, Result.andThen], h2 o a _ hcs (by simp [hlt])⟩
    · exact h.elim
  · exact h.elim

def indexA (P : Program) (t : TypeId) (x i : AV) (K : AV → Prop) : Prop :=
  match P.underlying t, x, i with
  | some (.array len e), .agg cs, .int _ n => (match P.info? e with
    | some j => (0 ≤ n ∧ n < (len : Int)) ∧ ∀ q : Nat, (q : Int) = n → partA P e cs (q * j.size) K
    | none => False)
  | some .string, .str s, .int _ n => (0 ≤ n ∧ n < (s.size : Int)) ∧ K (.int .u8 (byteAt s n.toNat))
  | _, _, _ => False
theorem indexA_ok {P : Program} {t : TypeId} {x i : AV} {K : AV → Prop} (h : indexA P t x i K) :
    ∃ a, K a ∧ ∀ (E : En) (v u : Value), Cv P E x v → Cv P E i u → ∃ r, (Instr.index t v u).run P E.w = .ok r E.w ∧ Cv P E a r := by
  unfold indexA at h
  split at h
  · rename_i len e cs k n hu
    split at h
    · rename_i j hj
      obtain ⟨⟨h0, h1⟩, h⟩ := h
      obtain ⟨a, hK, hr⟩ := partA_ok (h n.toNat (by omega))
      refine ⟨a, hK, fun E v u hv hu' => ?_⟩
      cases hu'
      cases hv with
      | agg p1 p2 =>
        obtain ⟨r, hr1, hr2⟩ := hr E _ (.agg p1 p2)
        exact ⟨r, by simp [Instr.index, asIntOf, run_underlying hu, h0, h1, sizeOf, run_typeInfo E.w hj, Result.andThen, hr1], hr2⟩
    · exact h.elim
  · rename_i s k n hu
    obtain ⟨⟨h0, h1⟩, h⟩ := h
    refine ⟨_, h, fun E v u hv hu' => ?_⟩
    cases hu'
    cases hv
    have hlt : n.toNat < s.size := by omega
    refine ⟨.int .u8 (byteAt s n.toNat), ?_, .int _ _⟩
    have : s[n.toNat]? = some s[n.toNat] := by simp [hlt]
    simp [Instr.index, asIntOf, run_underlying hu, h0, Result.andThen, this, byteAt, hlt]
  · exact h.elim

def fieldValA (P : Program) (s : TypeId) (x : AV) (k : Nat) (K : AV → Prop) : Prop :=
  match P.underlying s, x with
  | some (.struct fs), .agg cs => (match fs[k]? with
    | some f => partA P f.type cs f.offset K
    | none => False)
  | _, _ => False
theorem fieldValA_ok {P : Program} {s : TypeId} {x : AV} {k : Nat} {K : AV → Prop} (h : fieldValA P s x k K) :
    ∃ a, K a ∧ ∀ (E : En) (v : Value), Cv P E x v → ∃ u, (Instr.field s v k).run P E.w = .ok u E.w ∧ Cv P E a u := by
  unfold fieldValA at h
  split at h
  · rename_i fs cs hu
    split at h
    · rename_i f hf
      obtain ⟨a, hK, hr⟩ := partA_ok h
      refine ⟨a, hK, fun E v hv => ?_⟩
      cases hv with
      | agg p1 p2 =>
        obtain ⟨r, hr1, hr2⟩ := hr E _ (.agg p1 p2)
        exact ⟨r, by simp [Instr.field, run_underlying hu, hf, asAgg, Result.andThen, hr1], hr2⟩
    · exact h.elim
  · exact h.elim

def extractA (x : AV) (i : Nat) (K : AV → Prop) : Prop :=
  match x with
  | .tup vs => (match vs[i]? with
    | some a => K a
    | none => False)
  | _ => False
theorem extractA_ok {P : Program} {x : AV} {i : Nat} {K : AV → Prop} (h : extractA x i K) :
    ∃ a, K a ∧ ∀ (E : En) (v : Value), Cv P E x v → ∃ u, (Instr.extract v i).run P E.w = .ok u E.w ∧ Cv P E a u := by
  unfold extractA at h
  split at h
  · rename_i vs
    split at h
    · rename_i a ha
      refine ⟨a, h, fun E v hv => ?_⟩
      cases hv with
      | @tup _ us h1 h2 =>
        have hlt : i < us.size := by have := (List.getElem?_eq_some_iff.1 ha).1; omega
        have hi : (us[i]? : Option Value) = some us[i] := by simp [hlt]
        exact ⟨us[i], by simp [Instr.extract, hi], h2 i a _ ha hi⟩
    · exact h.elim
  · exact h.elim

def byteOf (cs : List AV) : Int := match cs with | [.int _ x] => x | _ => 0
def strOf (n : Nat) (get : Nat → List AV) : ByteArray := strOfNums ((List.range n).map fun i => byteOf (get i))
def u8B (P : Program) (t : TypeId) : Bool := match P.underlying t with | some (.int .u8) => true | _ => false
def convA (P : Program) (o : Oper) (τ : Operand → AV) (s d : TypeId) (x : AV) (K : AV → Prop) : Prop :=
  match x, P.underlying s, P.underlying d with
  | .int _ n, some _, some (.int k) => K (.int k (k.wrap n))
  | .str s, some _, some .string => K (.str s)
  | .emp, some (.slice e), some .string => if u8B P e then K (.str ⟨#[]⟩) else False
  | .ro _ sz n get, some (.slice e), some .string => if u8B P e && Nat.beq sz 1 then (∀ i, i < n → ∃ x, get i = [.int .u8 x]) ∧ K (.str (strOf n get)) else False
  | _, _, _ => ∃ a, SameOb P o τ a ∧ K a

theorem convA_ok {P : Program} {o : Oper} {τ : Operand → AV} {s d : TypeId} {x : Operand} {K : AV → Prop} (ho : o.op = .convert s d x) (h : convA P o τ s d (τ x) K) :
    ∃ a, K a ∧ SameOb P o τ a := by
  have ops : ∀ (E : En) (ρ : Operand → Value), (∀ z ∈ o.op.operands, Cv P E (τ z) (ρ z)) → Cv P E (τ x) (ρ x) := fun E ρ hr => by
    rw [ho] at hr
    exact hr x (by simp [Op.operands])
  have fin : ∀ (a : AV), K a → (∀ (E : En) (v : Value), Cv P E (τ x) v → ∃ u, (convert s d v).run P E.w = .ok u E.w ∧ Cv P E a u) → ∃ a, K a ∧ SameOb P o τ a := by
    intro a hK hr
    refine ⟨a, hK, fun E ρ hρ => ?_⟩
    obtain ⟨u, h1, h2⟩ := hr E _ (ops E ρ hρ)
    exact ⟨u, by simp [execOp, ho, h1, Result.andThen], h2⟩
  unfold convA at h
  generalize hx : τ x = X at h
  split at h
  · rename_i k n d1 k' h1 h2
    refine fin _ h fun E v hv => ?_
    rw [hx] at hv
    cases hv
    exact ⟨_, by simp [convert, run_underlying h1, run_underlying h2, Conv.intToInt, Result.andThen], .int _ _⟩
  · rename_i s1 d1 d2 h1 h2
    refine fin _ h fun E v hv => ?_
    rw [hx] at hv
    cases hv
    exact ⟨_, by simp [convert, run_underlying h1, run_underlying h2, Result.andThen], .str _⟩
  · rename_i d1 d2 e h1 h2
    split at h
    · rename_i hu8
      have he : P.underlying e = some (.int .u8) := by unfold u8B at hu8; split at hu8 <;> first | assumption | cases hu8
      refine fin _ h fun E v hv => ?_
      rw [hx] at hv
      cases hv with
      | emp =>
        refine ⟨.string ⟨#[]⟩, ?_, .str _⟩
        exact run_convert_bytes_nil E.w s e h1 he 0 0 d h2
    · exact h.elim
  · rename_i d1 d2 b sz n get e h1 h2
    split at h
    · rename_i hu8
      simp only [Bool.and_eq_true] at hu8
      have he : P.underlying e = some (.int .u8) := by have hq := hu8.1; unfold u8B at hq; split at hq <;> first | assumption | cases hq
      obtain rfl := Nat.eq_of_beq_eq_true hu8.2
      obtain ⟨hg, h⟩ := h
      refine fin _ h fun E v hv => ?_
      rw [hx] at hv
      cases hv with
      | @ro _ _ _ _ A c val hc hA hl hv hb =>
        by_cases hn : 0 < n
        · obtain ⟨g, o', rfl, _, _, hcell⟩ := hA hn
          refine ⟨.string (strOf n get), run_convert_bytes_arg E.w s e h1 he g o' n c ((List.range n).map fun i => byteOf (get i)) (by simp) (fun i hi => ?_) d h2, .str _⟩
          obtain ⟨x, hx'⟩ := hg i hi
          have h3 := hv i 0 (.int .u8 x) hi (by rw [hx']; rfl)
          have h4 := hcell i 0 hi (by omega)
          generalize val i 0 = V at h3 h4
          cases h3
          simp only [Nat.mul_one, Nat.add_zero] at h4
          rw [h4]
          simp [List.getD, hi, hx', byteOf]
        · obtain rfl : n = 0 := by omega
          refine ⟨.string (strOf 0 get), ?_, .str _⟩
          cases A with
          | none => exact run_convert_bytes_nil E.w s e h1 he 0 c d h2
          | some ad =>
            simp [convert, run_underlying h1, run_underlying h2, run_underlying he, Conv.bytesToString, loadCells, loadCellsFrom, Result.andThen]
            rfl
    · exact h.elim
  · obtain ⟨a, h1, h2⟩ := h
    exact ⟨a, h2, h1⟩

/-! ### 7. Aggregates built; lengths -/
/-- Cells told one by one. -/
def Rl (P : Program) (E : En) (cs : List AV) (vs : Array Value) : Prop :=
  vs.size = cs.length ∧ ∀ (j : Nat) (a : AV) (v : Value), cs[j]? = some a → (vs[j]? : Option Value) = some v → Cv P E a v
theorem Rl.mono {P : Program} {E E' : En} (h : E.le E') {cs : List AV} {vs : Array Value} (hr : Rl P E cs vs) : Rl P E' cs vs := ⟨hr.1, fun j a v h1 h2 => (hr.2 j a v h1 h2).mono h⟩
theorem Rl.zero (P : Program) (E : En) (vs : Array Value) : Rl P E (vs.toList.map avCell) vs :=
  ⟨by simp, fun j a v h1 h2 => by
    simp only [List.getElem?_map, Array.getElem?_toList, h2, Option.map_some, Option.some.injEq] at h1
    subst h1
    exact avCell_ok P E v⟩

def fillA (place : Nat → Option (Nat × Nat)) : List AV → List (Nat × AV) → Option (List AV)
  | cells, [] => some cells
  | cells, (i, a) :: rest => match place i, cellsOf a with
    | some (off, size), some cs => if Nat.beq cs.length size && Nat.ble (off + size) cells.length then fillA place (cells.take off ++ (cs ++ cells.drop (off + size))) rest else none
    | _, _ => none

theorem foldSet (off : Nat) : ∀ (l : List Value) (s : Nat) (cells : Array Value),
    ((l.zipIdx s).foldl (fun cs (p : Value × Nat) => cs.setIfInBounds (off + p.2) p.1) cells).size = cells.size ∧
    ∀ k, (((l.zipIdx s).foldl (fun cs (p : Value × Nat) => cs.setIfInBounds (off + p.2) p.1) cells)[k]? : Option Value) =
      if off + s ≤ k ∧ k < off + s + l.length ∧ k < cells.size then l[k - (off + s)]? else cells[k]?
  | [], s, cells => by
    refine ⟨rfl, fun k => ?_⟩
    rw [if_neg (by simp; omega)]
    rfl
  | v :: l, s, cells => by
    obtain ⟨h1, h2⟩ := foldSet off l (s + 1) (cells.setIfInBounds (off + s) v)
    simp only [List.zipIdx_cons, List.foldl_cons]
    refine ⟨by rw [h1]; simp, fun k => ?_⟩
    rw [h2 k]
    simp only [Array.size_setIfInBounds, List.length_cons]
    by_cases hk : k = off + s
    · subst hk
      rw [if_neg (by omega)]
      by_cases hs : off + s < cells.size
      · rw [if_pos (by omega)]; simp [hs]
      · rw [if_neg (by omega)]; simp [hs]
    · by_cases hin : off + s ≤ k ∧ k < off + s + (l.length + 1) ∧ k < cells.size
      · rw [if_pos (by omega), if_pos hin]
        rw [show k - (off + s) = (k - (off + (s + 1))) + 1 by omega]
        simp
      · rw [if_neg (by omega), if_neg hin, Array.getElem?_setIfInBounds_ne (by omega)]

theorem fillA_ok {P : Program} {E : En} {place : Nat → Option (Nat × Nat)} : ∀ (parts : List (Nat × AV)) (vparts : List (Nat × Value)) (cells out : List AV) (vcells : Array Value),
    fillA place cells parts = some out → Rl P E cells vcells → vparts.length = parts.length →
    (∀ (j i i' : Nat) (a : AV) (v : Value), parts[j]? = some (i, a) → vparts[j]? = some (i', v) → i' = i ∧ Cv P E a v) →
    ∃ vout, Instr.fill place vcells vparts = some vout ∧ Rl P E out vout ∧ vout.size = vcells.size
  | [], [], cells, out, vcells, h, hr, _, _ => by simp only [fillA, Option.some.injEq] at h; subst h; exact ⟨vcells, rfl, hr, rfl⟩
  | [], _ :: _, _, _, _, _, _, hl, _ => by simp at hl
  | _ :: _, [], _, _, _, _, _, hl, _ => by simp at hl
  | (i, a) :: parts, (i', v) :: vparts, cells, out, vcells, h, hr, hl, hp => by
    simp only [fillA] at h
    obtain ⟨rfl, hc⟩ := hp 0 i i' a v rfl rfl
    split at h
    · rename_i off size cs h1 h2
      split at h
      · rename_i hb
        simp only [Bool.and_eq_true] at hb
        have hb1 := Nat.eq_of_beq_eq_true hb.1
        have hb2 := Nat.le_of_ble_eq_true hb.2
        obtain ⟨q1, q2, _⟩ := cellsOf_ok h2 hc
        have hf := foldSet off v.cells.toList 0 vcells
        simp only [Array.length_toList, Nat.add_zero] at hf
        have key : ∃ vm : Array Value, v.cells.zipIdx.foldl (fun cs (p : Value × Nat) => cs.setIfInBounds (off + p.2) p.1) vcells = vm ∧ vm.size = vcells.size ∧
            ∀ k, (vm[k]? : Option Value) = if off ≤ k ∧ k < off + v.cells.size ∧ k < vcells.size then v.cells.toList[k - off]? else vcells[k]? := by
          refine ⟨_, rfl, ?_⟩
          rw [← Array.foldl_toList, Array.toList_zipIdx]
          exact hf
        obtain ⟨vm, e1, e2, e3⟩ := key
        have hrl : Rl P E (cells.take off ++ (cs ++ cells.drop (off + size))) vm := by
          refine ⟨by rw [e2, hr.1]; simp; omega, fun j b u hj hu => ?_⟩
          rw [e3 j] at hu
          by_cases hj1 : j < off
          · rw [if_neg (by omega)] at hu
            rw [List.getElem?_append_left (by simp; omega), List.getElem?_take_of_lt hj1] at hj
            exact hr.2 j b u hj hu
          · rw [List.getElem?_append_right (by simp; omega)] at hj
            simp only [List.length_take] at hj
            rw [show min off cells.length = off by omega] at hj
            by_cases hj2 : j - off < cs.length
            · rw [List.getElem?_append_left hj2] at hj
              rw [if_pos (by have := hr.1; omega)] at hu
              exact q2 _ b u hj (by simpa using hu)
            · rw [List.getElem?_append_right (by omega), List.getElem?_drop] at hj
              rw [if_neg (by omega)] at hu
              exact hr.2 j b u (by rw [← hj]; congr 1; omega) hu
        obtain ⟨vout, f1, f2, f3⟩ := fillA_ok parts vparts _ out vm h hrl (by simpa using hl) (fun j i i' a v p1 p2 => hp (j + 1) i i' a v (by simpa using p1) (by simpa using p2))
        refine ⟨vout, ?_, f2, f3.trans e2⟩
        simp only [Instr.fill, h1]
        rw [if_neg (by have := hr.1; simp; omega)]
        rw [← f1, ← e1]
      · cases h
    · cases h

def placesA (P : Program) (t : TypeId) : Option (Nat → Option (Nat × Nat)) :=
  match P.underlying t with
  | some (.array _ e) => (P.info? e).map fun ie => fun i => some (i * ie.size, ie.size)
  | some (.struct fields) => (fields.toList.mapM fun f => (P.info? f.type).map fun i => (f.offset, i.size)).map fun places => fun i => places.toArray[i]?
  | _ => none
def buildA (P : Program) (t : TypeId) (parts : List (Nat × AV)) (K : AV → Prop) : Prop :=
  match P.info? t, placesA P t with
  | some it, some pl => (match it.zero with
    | some z => match fillA pl (z.cells.toList.map avCell) parts with
      | some cs => K (.agg cs)
      | none => False
    | none => False)
  | _, _ => False
theorem buildA_ok {P : Program} {t : TypeId} {τ : Operand → AV} {parts : Array (Nat × Operand)} {K : AV → Prop} (h : buildA P t (parts.toList.map fun p => (p.1, τ p.2)) K) :
    ∃ a, K a ∧ ∀ (E : En) (ρ : Operand → Value), (∀ p ∈ parts, Cv P E (τ p.2) (ρ p.2)) → ∃ u, (Instr.build t (parts.map fun (i, x) => (i, ρ x))).run P E.w = .ok u E.w ∧ Cv P E a u := by
  unfold buildA at h
  split at h
  · rename_i it pl hi hpl
    split at h
    · rename_i z hz
      split at h
      · rename_i cs hf
        refine ⟨_, h, fun E ρ hρ => ?_⟩
        obtain ⟨vout, f1, f2, _⟩ := fillA_ok (P := P) (E := E) (parts.toList.map fun p => (p.1, τ p.2)) (parts.map fun (i, x) => (i, ρ x)).toList _ cs z.cells hf (Rl.zero P E _) (by simp)
          (fun j i i' a v p1 p2 => by
            simp only [Array.toList_map, List.getElem?_map, Array.getElem?_toList] at p1 p2
            cases hj : (parts[j]? : Option (Nat × Operand)) with
            | none => simp [hj] at p1
            | some p =>
              simp only [hj, Option.map_some, Option.some.injEq, Prod.mk.injEq] at p1 p2
              obtain ⟨rfl, rfl⟩ := p1
              obtain ⟨rfl, rfl⟩ := p2
              exact ⟨rfl, hρ p (Array.mem_of_getElem? hj)⟩)
        refine ⟨.agg vout, run_build E.w t _ vout ?_, .agg f2.1 f2.2⟩
        unfold Program.built
        unfold placesA at hpl
        split at hpl
        · rename_i n e hu
          obtain ⟨ie, hie, rfl⟩ := Option.map_eq_some_iff.1 hpl
          simp [hi, hu, hz, hie, f1]
          simpa using f1
        · rename_i fields hu
          obtain ⟨places, hpp, rfl⟩ := Option.map_eq_some_iff.1 hpl
          simp only [hi, hu, hz, hpp]
          exact f1
        · cases hpl
      · exact h.elim
    · exact h.elim
  · exact h.elim

/-- len. -/
def kindSl (P : Program) (t : TypeId) : Bool := match P.underlying t with | some (.slice _) => true | _ => false
def kindStr (P : Program) (t : TypeId) : Bool := match P.underlying t with | some .string => true | _ => false
def lenA (P : Program) (t : TypeId) (x : AV) (K : AV → Prop) : Prop :=
  match x with
  | .str s => if kindStr P t then K (.int .i64 s.size) else False
  | .ro _ _ n _ | .own _ _ _ n => if kindSl P t then K (.int .i64 n) else False
  | .emp => if kindSl P t then K (.int .i64 0) else False
  | _ => False
theorem lenA_ok {P : Program} {t : TypeId} {x : AV} {K : AV → Prop} (h : lenA P t x K) :
    ∃ a, K a ∧ ∀ (E : En) (v : Value) (ty : TypeId) (ts : Array TypeId), Cv P E x v → ∃ u, (Builtin.len_ #[t] ty #[v]).run P E.w = .ok u E.w ∧ Cv P E a u := by
  have sl : kindSl P t = true → ∀ (w : World) (A : Option Addr) (n c : Nat) (ty : TypeId), (Builtin.len_ #[t] ty #[.slice A n c]).run P w = .ok (.int .i64 n) w := by
    intro hk w A n c ty
    unfold kindSl at hk
    split at hk
    · rename_i e hu
      simp [Builtin.len_, run_underlying hu, goInt, Result.andThen]
    · cases hk
  unfold lenA at h
  split at h
  · rename_i s
    split at h
    · rename_i hk
      refine ⟨_, h, fun E v ty ts hv => ?_⟩
      cases hv
      unfold kindStr at hk
      split at hk
      · rename_i hu
        exact ⟨.int .i64 s.size, by simp [Builtin.len_, run_underlying hu, goInt, Result.andThen], .int _ _⟩
      · cases hk
    · exact h.elim
  · split at h
    · rename_i hk; refine ⟨_, h, fun E v ty ts hv => ?_⟩; cases hv; exact ⟨_, sl hk _ _ _ _ _, .int _ _⟩
    · exact h.elim
  · split at h
    · rename_i hk; refine ⟨_, h, fun E v ty ts hv => ?_⟩; cases hv; exact ⟨_, sl hk _ _ _ _ _, .int _ _⟩
    · exact h.elim
  · split at h
    · rename_i hk; refine ⟨_, h, fun E v ty ts hv => ?_⟩; cases hv; exact ⟨_, sl hk _ _ _ _ _, .int _ _⟩
    · exact h.elim
  · exact h.elim
def minmaxA (mn : Bool) (xs : List AV) (K : AV → Prop) : Prop :=
  match xs with
  | [.int k a, .int k' b] => if k = k' then K (.int k (if mn then (if b < a then b else a) else (if b > a then b else a))) else False
  | _ => False

/-! ### 8. All operations that leave the world as it is -/
def sameA (P : Program) (Hr : Hp) (o : Oper) (τ : Operand → AV) (K : AV → Prop) : Prop :=
  match o.op with
  | .move x => K (τ x)
  | .assign x => K (τ x)
  | .pick c a b => (match τ c with
    | .bool t => vIf t (K (τ a)) (K (τ b))
    | _ => False)
  | .load t a => loadA P Hr t (τ a) K
  | .nilCheck x => (match τ x with
    | .ptr i k => K (.ptr i k)
    | .ept i s j k => K (.ept i s j k)
    | .pv cs => K (.pv cs)
    | .fn (.func f) a b => K (.fn (.func f) a b)
    | _ => False)
  | .binOp op t x y _ => binA P o τ op t (τ x) (τ y) K
  | .unOp op _ x => (match op, τ x with
    | .not, .bool b => K (.bool !b)
    | .neg, .int k n => K (.int k (k.wrap (0 - n)))
    | _, _ => False)
  | .convert s d x => convA P o τ s d (τ x) K
  | .makeFunc fn first cap => K (.fn fn (first.toList.map τ) (cap.toList.map τ))
  | .slice t x lo hi mx => sliceA P t τ (τ x) lo hi mx K
  | .fieldAddr s x f => fieldA P s (τ x) f K
  | .field s x f => fieldValA P s (τ x) f K
  | .indexAddr t x i => indexAddrA P t (τ x) (τ i) K
  | .index t x i => indexA P t (τ x) (τ i) K
  | .extract x i => extractA (τ x) i K
  | .build t parts => buildA P t (parts.toList.map fun p => (p.1, τ p.2)) K
  | .call c => (match c.callee, c.args.toList, c.argTypes.toList with
    | .builtin .len, [x], [t] => lenA P t (τ x) K
    | .builtin .min, xs, _ => minmaxA true (xs.map τ) K
    | .builtin .max, xs, _ => minmaxA false (xs.map τ) K
    | _, _, _ => ∃ a, SameOb P o τ a ∧ K a)
  | _ => ∃ a, SameOb P o τ a ∧ K a

/-- In every world in which what is read lies, the operation yields this, and the world stays. -/
def SameRun (P : Program) (Hr : Hp) (o : Oper) (τ : Operand → AV) (a : AV) : Prop :=
  ∀ (E : En) (H : Hp) (ρ : Operand → Value), (∀ j b, Hr j = some b → H j = some b) → HpOk P E H → (∀ x ∈ o.op.operands, Cv P E (τ x) (ρ x)) → ∃ v, (execOp ρ o).run P E.w = .ok (.value v) E.w ∧ Cv P E a v
theorem SameRun.of_ob {P : Program} {Hr : Hp} {o : Oper} {τ : Operand → AV} {a : AV} (h : SameOb P o τ a) : SameRun P Hr o τ a := fun E _ ρ _ _ hρ => h E ρ hρ

theorem builtin_run {P : Program} {o : Oper} {ρ : Operand → Value} {b : Builtin} {args : Array Operand} {ts : Array TypeId} (ho : o.op = .call ⟨.builtin b, args, ts⟩) (w : World) :
    (execOp ρ o).run P w = (builtin b ts o.type (args.map fun | .const _ => true | _ => false) (args.map ρ)).run P w := by
  simp [execOp, ho, resolve, invoke, Result.andThen]
  rfl

theorem sameA_ok {P : Program} {Hr : Hp} {o : Oper} {τ : Operand → AV} {K : AV → Prop} (h : sameA P Hr o τ K) : ∃ a, K a ∧ SameRun P Hr o τ a := by
  unfold sameA at h
  split at h
  case h_1 x ho =>
    refine ⟨_, h, fun E H ρ _ _ hρ => ⟨ρ x, by simp [execOp, ho], ?_⟩⟩
    rw [ho] at hρ; exact hρ x (by simp [Op.operands])
  case h_2 x ho =>
    refine ⟨_, h, fun E H ρ _ _ hρ => ⟨ρ x, by simp [execOp, ho], ?_⟩⟩
    rw [ho] at hρ; exact hρ x (by simp [Op.operands])
  case h_3 c a b ho =>
    generalize hc : τ c = C at h
    split at h
    · rename_i t
      have cond : ∀ (E : En) (ρ : Operand → Value), (∀ x ∈ o.op.operands, Cv P E (τ x) (ρ x)) → ρ c = .bool t ∧ Cv P E (τ a) (ρ a) ∧ Cv P E (τ b) (ρ b) := by
        intro E ρ hρ
        rw [ho] at hρ
        have h1 := hρ c (by simp [Op.operands])
        rw [hc] at h1
        refine ⟨?_, hρ a (by simp [Op.operands]), hρ b (by simp [Op.operands])⟩
        generalize ρ c = q at h1
        cases h1
        rfl
      rcases vIf_cases h with ⟨rfl, hk⟩ | ⟨rfl, hk⟩
      · refine ⟨_, hk, fun E H ρ _ _ hρ => ?_⟩
        obtain ⟨e1, e2, e3⟩ := cond E ρ hρ
        exact ⟨ρ a, by simp [execOp, ho, e1, asBool], e2⟩
      · refine ⟨_, hk, fun E H ρ _ _ hρ => ?_⟩
        obtain ⟨e1, e2, e3⟩ := cond E ρ hρ
        exact ⟨ρ b, by simp [execOp, ho, e1, asBool], e3⟩
    · exact h.elim
  case h_4 t a ho =>
    obtain ⟨r, hK, hr⟩ := loadA_ok h
    refine ⟨r, hK, fun E H ρ hs hh hρ => ?_⟩
    rw [ho] at hρ
    obtain ⟨u, h1, h2⟩ := hr E H (ρ a) hs hh (hρ a (by simp [Op.operands]))
    exact ⟨u, by simp [execOp, ho, h1, Result.andThen], h2⟩
  case h_5 x ho =>
    have arg : ∀ (E : En) (ρ : Operand → Value), (∀ x ∈ o.op.operands, Cv P E (τ x) (ρ x)) → Cv P E (τ x) (ρ x) := fun E ρ hρ => by
      rw [ho] at hρ; exact hρ x (by simp [Op.operands])
    generalize hx : τ x = X at h
    split at h
    · refine ⟨_, h, fun E H ρ _ _ hρ => ⟨ρ x, ?_, hx ▸ arg E ρ hρ⟩⟩
      have := arg E ρ hρ
      rw [hx] at this
      simp only [execOp, ho]
      generalize ρ x = q at this
      cases this
      rfl
    · refine ⟨_, h, fun E H ρ _ _ hρ => ⟨ρ x, ?_, hx ▸ arg E ρ hρ⟩⟩
      have := arg E ρ hρ
      rw [hx] at this
      simp only [execOp, ho]
      generalize ρ x = q at this
      cases this
      rfl
    · refine ⟨_, h, fun E H ρ _ _ hρ => ⟨ρ x, ?_, hx ▸ arg E ρ hρ⟩⟩
      have := arg E ρ hρ
      rw [hx] at this
      simp only [execOp, ho]
      generalize ρ x = q at this
      cases this
      rfl
    · refine ⟨_, h, fun E H ρ _ _ hρ => ⟨ρ x, ?_, hx ▸ arg E ρ hρ⟩⟩
      have := arg E ρ hρ
      rw [hx] at this
      simp only [execOp, ho]
      generalize ρ x = q at this
      cases this
      rfl
    · exact h.elim
  case h_6 op t x y yt ho =>
    obtain ⟨a, hK, hr⟩ := binA_ok ho h
    exact ⟨a, hK, .of_ob hr⟩
  case h_7 op t x ho =>
    have arg : ∀ (E : En) (ρ : Operand → Value), (∀ x ∈ o.op.operands, Cv P E (τ x) (ρ x)) → Cv P E (τ x) (ρ x) := fun E ρ hρ => by
      rw [ho] at hρ; exact hρ x (by simp [Op.operands])
    generalize hx : τ x = X at h
    split at h
    · rename_i b
      refine ⟨_, h, fun E H ρ _ _ hρ => ⟨.bool !b, ?_, .bool _⟩⟩
      have := arg E ρ hρ
      rw [hx] at this
      simp only [execOp, ho]
      generalize ρ x = q at this
      cases this
      simp [Op.unary]
    · rename_i k n
      refine ⟨_, h, fun E H ρ _ _ hρ => ⟨.int k (k.wrap (0 - n)), ?_, .int _ _⟩⟩
      have := arg E ρ hρ
      rw [hx] at this
      simp only [execOp, ho]
      generalize ρ x = q at this
      cases this
      simp [Op.unary, Op.intArith]
    · exact h.elim
  case h_8 s d x ho =>
    obtain ⟨a, hK, hr⟩ := convA_ok ho h
    exact ⟨a, hK, .of_ob hr⟩
  case h_9 fn first cap ho =>
    refine ⟨_, h, fun E H ρ _ _ hρ => ⟨.func fn (first.map ρ) (cap.map ρ), by simp [execOp, ho, Instr.makeFunc, Result.andThen], ?_⟩⟩
    rw [ho] at hρ
    have mem : ∀ (xs : Array Operand), (∀ x ∈ xs, Cv P E (τ x) (ρ x)) → ∀ (j : Nat) (a : AV) (v : Value), (xs.toList.map τ)[j]? = some a → ((xs.map ρ)[j]? : Option Value) = some v → Cv P E a v := by
      intro xs hxs j a v h1 h2
      simp only [List.getElem?_map, Array.getElem?_toList, Array.getElem?_map] at h1 h2
      cases hj : (xs[j]? : Option Operand) with
      | none => simp [hj] at h1
      | some x =>
        simp only [hj, Option.map_some, Option.some.injEq] at h1 h2
        subst h1; subst h2
        exact hxs x (Array.mem_of_getElem? hj)
    exact .fn (by simp) (by simp) (mem first fun x hx => hρ x (by simp [Op.operands, hx])) (mem cap fun x hx => hρ x (by simp [Op.operands, hx]))
  case h_10 t x lo hi mx ho =>
    obtain ⟨a, hK, hr⟩ := sliceA_ok h
    refine ⟨a, hK, fun E H ρ _ _ hρ => ?_⟩
    rw [ho] at hρ
    obtain ⟨u, h1, h2⟩ := hr E ρ (ρ x) (hρ x (by simp [Op.operands])) (fun z hz => hρ z (by subst hz; simp [Op.operands])) (fun z hz => hρ z (by subst hz; simp [Op.operands]))
    exact ⟨u, by simp [execOp, ho, h1, Result.andThen], h2⟩
  case h_11 s x f ho =>
    obtain ⟨a, hK, hr⟩ := fieldA_ok h
    refine ⟨a, hK, fun E H ρ _ _ hρ => ?_⟩
    rw [ho] at hρ
    obtain ⟨u, h1, h2⟩ := hr E (ρ x) (hρ x (by simp [Op.operands]))
    exact ⟨u, by simp [execOp, ho, h1, Result.andThen], h2⟩
  case h_12 s x f ho =>
    obtain ⟨a, hK, hr⟩ := fieldValA_ok h
    refine ⟨a, hK, fun E H ρ _ _ hρ => ?_⟩
    rw [ho] at hρ
    obtain ⟨u, h1, h2⟩ := hr E (ρ x) (hρ x (by simp [Op.operands]))
    exact ⟨u, by simp [execOp, ho, h1, Result.andThen], h2⟩
  case h_13 t x i ho =>
    obtain ⟨a, hK, hr⟩ := indexAddrA_ok h
    refine ⟨a, hK, fun E H ρ _ _ hρ => ?_⟩
    rw [ho] at hρ
    obtain ⟨u, h1, h2⟩ := hr E (ρ x) (ρ i) (hρ x (by simp [Op.operands])) (hρ i (by simp [Op.operands]))
    exact ⟨u, by simp [execOp, ho, h1, Result.andThen], h2⟩
  case h_14 t x i ho =>
    obtain ⟨a, hK, hr⟩ := indexA_ok h
    refine ⟨a, hK, fun E H ρ _ _ hρ => ?_⟩
    rw [ho] at hρ
    obtain ⟨u, h1, h2⟩ := hr E (ρ x) (ρ i) (hρ x (by simp [Op.operands])) (hρ i (by simp [Op.operands]))
    exact ⟨u, by simp [execOp, ho, h1, Result.andThen], h2⟩
  case h_15 x i ho =>
    obtain ⟨a, hK, hr⟩ := extractA_ok h
    refine ⟨a, hK, fun E H ρ _ _ hρ => ?_⟩
    rw [ho] at hρ
    obtain ⟨u, h1, h2⟩ := hr E (ρ x) (hρ x (by simp [Op.operands]))
    exact ⟨u, by simp [execOp, ho, h1, Result.andThen], h2⟩
  case h_16 t parts ho =>
    obtain ⟨a, hK, hr⟩ := buildA_ok h
    refine ⟨a, hK, fun E H ρ _ _ hρ => ?_⟩
    rw [ho] at hρ
    obtain ⟨u, h1, h2⟩ := hr E ρ (fun p hp => hρ p.2 (by simp only [Op.operands, List.mem_toArray]; exact List.mem_map.2 ⟨p, by simpa using hp, rfl⟩))
    exact ⟨u, by simp [execOp, ho, h1, Result.andThen], h2⟩
  case h_17 c ho =>
    obtain ⟨callee, args, ts⟩ := c
    obtain ⟨args⟩ := args
    obtain ⟨ts⟩ := ts
    dsimp only at h
    have two : ∀ (E : En) (ρ : Operand → Value) (k k' : IntKind) (p q : Int), (∀ x ∈ o.op.operands, Cv P E (τ x) (ρ x)) → args.map τ = [.int k p, .int k' q] →
        ∃ x y, args = [x, y] ∧ ρ x = .int k p ∧ ρ y = .int k' q := by
      intro E ρ k k' p q hρ he
      rcases args with _ | ⟨x, _ | ⟨y, _ | _⟩⟩ <;> first | (simp at he; done) | skip
      · simp only [List.map_cons, List.map_nil, List.cons.injEq, and_true] at he
        rw [ho] at hρ
        have h1 := hρ x (by cases callee <;> simp [Op.operands, Call.operands])
        have h2 := hρ y (by cases callee <;> simp [Op.operands, Call.operands])
        rw [he.1] at h1
        rw [he.2] at h2
        refine ⟨x, y, rfl, ?_, ?_⟩
        · generalize ρ x = r at h1; cases h1; rfl
        · generalize ρ y = r at h2; cases h2; rfl
    split at h
    · rename_i x t
      obtain ⟨a, hK, hr⟩ := lenA_ok h
      refine ⟨a, hK, fun E H ρ _ _ hρ => ?_⟩
      have hb := builtin_run (P := P) (ρ := ρ) ho E.w
      rw [ho] at hρ
      obtain ⟨u, h1, h2⟩ := hr E (ρ x) o.type #[] (hρ x (by simp [Op.operands, Call.operands]))
      refine ⟨u, ?_, h2⟩
      rw [hb]
      simp [builtin, h1, Result.andThen]
    · unfold minmaxA at h
      split at h
      · rename_i k p k' q he
        split at h
        · rename_i hk
          subst hk
          refine ⟨_, h, fun E H ρ _ _ hρ => ?_⟩
          have hb := builtin_run (P := P) (ρ := ρ) ho E.w
          obtain ⟨x, y, rfl, e1, e2⟩ := two E ρ k k p q hρ he
          refine ⟨.int k (if q < p then q else p), ?_, .int _ _⟩
          rw [hb]
          simp [builtin, Builtin.min_, Builtin.min2, e1, e2, Result.andThen]
        · exact h.elim
      · exact h.elim
    · unfold minmaxA at h
      split at h
      · rename_i k p k' q he
        split at h
        · rename_i hk
          subst hk
          refine ⟨_, h, fun E H ρ _ _ hρ => ?_⟩
          have hb := builtin_run (P := P) (ρ := ρ) ho E.w
          obtain ⟨x, y, rfl, e1, e2⟩ := two E ρ k k p q hρ he
          refine ⟨.int k (if q > p then q else p), ?_, .int _ _⟩
          rw [hb]
          simp [builtin, Builtin.max_, Builtin.max2, e1, e2, Result.andThen]
        · exact h.elim
      · exact h.elim
    · obtain ⟨a, h1, h2⟩ := h
      exact ⟨a, h2, .of_ob h1⟩
  case h_18 =>
    obtain ⟨a, h1, h2⟩ := h
    exact ⟨a, h2, .of_ob h1⟩

/-! ### 9. Operations that change the world -/
inductive Eff where
  | none
  | new (bs : List Blk)
  | set (H : Hp)
def Eff.app : Eff → Hp → Nat → Hp
  | .none, H, _ => H
  | .new bs, H, id => addB H id bs
  | .set H', _, _ => H'

/-- What an operation comes to, carried out or called. -/
def OpRes (P : Program) (o : Oper) (ρ : Operand → Value) (w : World) (R : Value → World → Prop) : Prop :=
  match (execOp ρ o).run P w with
  | .ok (.value v) w' => R v w'
  | .ok .skip w' => R undef w'
  | .ok (.enter f args) w' => Calls P f args w' fun e w'' => ∃ v, e = .returned v ∧ R v w''
  | .ok (.round l f tmps assign body) w' => RoundIn Fence.wide 0 P l f tmps assign body w' fun e w'' => ∃ v, e = .returned v ∧ R v w''
  | _ => False
theorem OpRes.mono {P : Program} {o : Oper} {ρ : Operand → Value} {w : World} {R R' : Value → World → Prop} (h : OpRes P o ρ w R) (hr : ∀ v w', R v w' → R' v w') : OpRes P o ρ w R' := by
  unfold OpRes at h ⊢
  split at h
  · exact hr _ _ h
  · exact hr _ _ h
  · exact h.mono fun e w' ⟨v, e1, e2⟩ => ⟨v, e1, hr _ _ e2⟩
  · exact h.mono fun e w' ⟨v, e1, e2⟩ => ⟨v, e1, hr _ _ e2⟩
  · exact h.elim

def OpRun (P : Program) (o : Oper) (τ : Operand → AV) (H : Hp) (id : Nat) (a : AV) (H' : Hp) : Prop :=
  ∀ (N : Nat → Prop) (B : Nat) (D : Nat → Prop) (β : Nat → Nat) (w : World) (ρ : Operand → Value),
    HpOk P (En.mk' w β N H B D) H → (∀ j, id ≤ j → j < id + 4 → ¬ D j) → B ≤ w.heap.size → (∀ g, N g → g < B) →
    (∀ x ∈ o.op.operands, Cv P (En.mk' w β N H B D) (τ x) (ρ x)) → OpRes P o ρ w fun v w' => Post P N B D β H w id a H' v w'

section
variable {P : Program} {o : Oper} {τ : Operand → AV} {H : Hp} {id : Nat} {a : AV} {H' : Hp}
theorem OpRun.of_run (h : ∀ (N : Nat → Prop) (B : Nat) (D : Nat → Prop) (β : Nat → Nat) (w : World) (ρ : Operand → Value),
    HpOk P (En.mk' w β N H B D) H → (∀ j, id ≤ j → j < id + 4 → ¬ D j) → B ≤ w.heap.size → (∀ g, N g → g < B) → (∀ x ∈ o.op.operands, Cv P (En.mk' w β N H B D) (τ x) (ρ x)) →
    ∃ v w', (execOp ρ o).run P w = .ok (.value v) w' ∧ Post P N B D β H w id a H' v w') : OpRun P o τ H id a H' := by
  intro N B D β w ρ h1 h2 h3 h4 h5
  obtain ⟨v, w', hr, hp⟩ := h N B D β w ρ h1 h2 h3 h4 h5
  unfold OpRes
  rw [hr]
  exact hp
theorem OpRun.of_skip (h : ∀ (N : Nat → Prop) (B : Nat) (D : Nat → Prop) (β : Nat → Nat) (w : World) (ρ : Operand → Value),
    HpOk P (En.mk' w β N H B D) H → (∀ j, id ≤ j → j < id + 4 → ¬ D j) → B ≤ w.heap.size → (∀ g, N g → g < B) → (∀ x ∈ o.op.operands, Cv P (En.mk' w β N H B D) (τ x) (ρ x)) →
    ∃ w', (execOp ρ o).run P w = .ok .skip w' ∧ Post P N B D β H w id a H' undef w') : OpRun P o τ H id a H' := by
  intro N B D β w ρ h1 h2 h3 h4 h5
  obtain ⟨w', hr, hp⟩ := h N B D β w ρ h1 h2 h3 h4 h5
  unfold OpRes
  rw [hr]
  exact hp
end

theorem SameRun.opRun {P : Program} {Hr H : Hp} {o : Oper} {τ : Operand → AV} {a : AV} (h : SameRun P Hr o τ a) (id : Nat) (hs : ∀ j b, Hr j = some b → H j = some b) : OpRun P o τ H id a H :=
  OpRun.of_run fun N B D β w ρ h1 _ _ _ h5 => by
    obtain ⟨v, hv, hc⟩ := h (En.mk' w β N H B D) H ρ hs h1 h5
    exact ⟨v, w, hv, Post.same id h1 hc⟩

/-- What an operation asks of the memory: nothing; it reads, or makes; it writes. -/
inductive Cls where
  | p | m | x
def clsOf : Op → Cls
  | .load .. | .alloc _ | .box .. | .buildSlice .. => .m
  | .store .. => .x
  | .call c => match c.callee with
    | .value _ => .m
    | .builtin .append | .builtin .copy | .builtin .clear | .builtin .delete => .x
    | .builtin .len | .builtin .min | .builtin .max => .p
    | _ => .x
  | .makeSlice .. | .makeMap .. | .lookup .. | .range .. => .m
  | .mapUpdate .. | .mapEntry .. | .entryStore .. | .next .. | .entry .. | .insert .. => .x
  | .move _ | .assign _ | .pick .. | .nilCheck _ | .binOp .. | .unOp .. | .convert .. | .makeFunc .. | .slice .. | .fieldAddr .. | .field .. | .indexAddr .. | .index .. | .extract .. | .build .. => .p
  | _ => .x

def Sub (H H' : Hp) : Prop := ∀ j b, H j = some b → H' j = some b
def noHp : Hp := fun _ => none
theorem Sub.refl (H : Hp) : Sub H H := fun _ _ h => h
theorem Sub.none (H : Hp) : Sub noHp H := fun _ _ h => by cases h

def Eff.still : Eff → Bool
  | .none => true
  | _ => false
def Eff.grows : Eff → Bool
  | .set _ => false
  | _ => true
/-- The operation goes through, and that is what it does, wherever it comes up. -/
def Good (P : Program) (o : Oper) (τ : Operand → AV) (Hr : Hp) (id : Nat) (a : AV) (eff : Eff) : Prop :=
  match clsOf o.op with
  | .p => eff = .none ∧ ∀ H id', OpRun P o τ H id' a H
  | .m => (eff.grows = true → ∀ H, Sub Hr H → OpRun P o τ H id a (eff.app H id)) ∧ OpRun P o τ Hr id a (eff.app Hr id)
  | .x => OpRun P o τ Hr id a (eff.app Hr id)
theorem Good.run {P : Program} {o : Oper} {τ : Operand → AV} {Hr : Hp} {id : Nat} {a : AV} {eff : Eff} (h : Good P o τ Hr id a eff) : OpRun P o τ Hr id a (eff.app Hr id) := by
  unfold Good at h
  split at h
  · obtain ⟨rfl, h⟩ := h; exact h _ _
  · exact h.2
  · exact h

theorem sameA_good {P : Program} {Hr : Hp} {o : Oper} {τ : Operand → AV} {K : AV → Eff → Prop} {id : Nat} (h : sameA P (match clsOf o.op with | .p => noHp | _ => Hr) o τ fun a => K a .none) :
    ∃ a eff, K a eff ∧ Good P o τ Hr id a eff := by
  obtain ⟨a, hK, hr⟩ := sameA_ok h
  refine ⟨a, .none, hK, ?_⟩
  unfold Good
  generalize clsOf o.op = c at hr
  cases c with
  | p => exact ⟨rfl, fun H id' => hr.opRun id' (Sub.none H)⟩
  | m => exact ⟨fun _ H hs => hr.opRun id hs, hr.opRun id (Sub.refl _)⟩
  | x => exact hr.opRun id (Sub.refl _)

/-! A variable is made. -/
theorem boxRun {P : Program} {o : Oper} {τ : Operand → AV} {e : TypeId} {cs : List AV} {id : Nat}
    (h : ∀ (E : En) (ρ : Operand → Value), (∀ x ∈ o.op.operands, Cv P E (τ x) (ρ x)) → ∃ vs : Array Value, Rl P E cs vs ∧ ∀ w, w = E.w → (execOp ρ o).run P w = .ok (.value (.pointer (some ⟨w.heap.size, 0, none⟩))) (w.alloc (.cells vs e))) (H : Hp) :
    OpRun P o τ H id (.ptr id 0) (addB H id [.box e cs]) :=
  OpRun.of_run fun N B D β w ρ h1 h2 h3 h4 h5 => by
    obtain ⟨vs, hr, hrun⟩ := h (En.mk' w β N H B D) ρ h5
    refine ⟨_, _, hrun w rfl, Post.new (vs := vs) (t := e) h2 h1 h3 (fun k hk => Below.heap_alloc w _ k hk) (heap_alloc_new w _) ⟨rfl, rfl, rfl⟩ (fun E' hle hw => ?_) (fun E' hle hw hβ hD => ?_)⟩
    · have := hr.mono hle
      exact ⟨vs, by rw [hw]; exact heap_alloc_new w _, this.1, this.2⟩
    · rw [← hβ]; exact .ptr hD

def allocA (P : Program) (e : TypeId) (K : List AV → Prop) : Prop :=
  match P.info? e with
  | some i => (match i.zero with
    | some z => K (z.cells.toList.map avCell)
    | none => False)
  | none => False
theorem allocA_ok {P : Program} {o : Oper} {τ : Operand → AV} {e : TypeId} {K : List AV → Prop} (ho : o.op = .alloc e) (h : allocA P e K) : ∃ cs, K cs ∧ ∀ id H, OpRun P o τ H id (.ptr id 0) (addB H id [.box e cs]) := by
  unfold allocA at h
  split at h
  · rename_i i hi
    split at h
    · rename_i z hz
      refine ⟨_, h, fun id H => boxRun (fun E ρ _ => ⟨z.cells, Rl.zero P E _, fun w _ => ?_⟩) H⟩
      simp [execOp, ho, Instr.alloc, zeroValue, run_typeInfo w hi, hz, newVar, newRow, Result.andThen]
    · exact h.elim
  · exact h.elim
theorem boxA_ok {P : Program} {o : Oper} {τ : Operand → AV} {e : TypeId} {x : Operand} {cs : List AV} (ho : o.op = .box e x) (h : cellsOf (τ x) = some cs) (id : Nat) (H : Hp) : OpRun P o τ H id (.ptr id 0) (addB H id [.box e cs]) :=
  boxRun (fun E ρ hρ => by
    rw [ho] at hρ
    obtain ⟨q1, q2, _⟩ := cellsOf_ok h (hρ x (by simp [Op.operands]))
    exact ⟨(ρ x).cells, ⟨q1, q2⟩, fun w _ => by simp [execOp, ho, Instr.box, newVar, newRow, Result.andThen]⟩) H

/-! A variable, or an element, is written. -/
def setCells (cs : List AV) (o : Nat) (c : List AV) : List AV := cs.take o ++ (c ++ cs.drop (o + c.length))
def setAt (get : Nat → List AV) (k o : Nat) (c : List AV) : Nat → List AV := fun q => bif Nat.beq q k then setCells (get q) o c else get q
theorem setAt_same (get : Nat → List AV) (k o : Nat) (c : List AV) : setAt get k o c k = setCells (get k) o c := by simp [setAt]
theorem setAt_ne (get : Nat → List AV) {k q : Nat} (o : Nat) (c : List AV) (h : q ≠ k) : setAt get k o c q = get q := by
  have : Nat.beq q k = false := by rw [Bool.eq_false_iff]; exact fun e => h (Nat.eq_of_beq_eq_true e)
  simp [setAt, this]
def noOwn : AV → Bool
  | .own .. => false
  | _ => true
def storeA (P : Program) (H : Hp) (t : TypeId) (a x : AV) (K : Hp → Prop) : Prop :=
  match a, cellsOf x, P.info? t with
  | .ptr i o, some c, some j => (match H i with
    | some (.box ty cs) => if Nat.beq c.length j.size && Nat.ble (o + c.length) cs.length then K (upd H i (some (.box ty (setCells cs o c)))) else False
    | _ => False)
  | .ept i sz k o, some c, some j => (match H i with
    | some (.arr e sz' n get) => if Nat.beq sz sz' && (Nat.beq c.length j.size && (Nat.ble (o + c.length) sz && (!u8B P e && c.all noOwn))) then
        k < n ∧ K (upd H i (some (.arr e sz n (setAt get k o c)))) else False
    | _ => False)
  | _, _, _ => False

theorem setRow_other (w : World) (g : Nat) (cs : Array Value) (k : Nat) (h : k ≠ g) : (w.setRow g cs).heap[k]? = w.heap[k]? := by
  simp only [World.setRow, Array.getElem?_modify]
  rw [if_neg (fun e => h e.symm)]
theorem setRow_size (w : World) (g : Nat) (cs : Array Value) : (w.setRow g cs).heap.size = w.heap.size := by simp [World.setRow]

theorem storeRun {P : Program} {w : World} {g o : Nat} {ty t : TypeId} {i : TypeInfo} {cur : Array Value} {v : Value} (hi : P.info? t = some i) (hg : w.heap[g]? = some (.cells cur ty (0, 0)))
    (hs : v.cells.size = i.size) (hle : o + v.cells.size ≤ cur.size) (h1 : ∀ u ∈ v.cells.toList, u.oneCell' = true) :
    (Instr.storeAt t (.pointer (some ⟨g, o, none⟩)) v).run P w = .ok () (w.setRow g (cur.toList.take o ++ v.cells.toList ++ cur.toList.drop (o + v.cells.size)).toArray) := by
  have := run_storeCells_at (P := P) g o ty v.cells.toList 0 cur w hg (by simpa using hle) h1
  simp only [Nat.add_zero, Array.length_toList] at this
  simp [Instr.storeAt, Instr.sureAddr, storeVar, sizeOf, run_typeInfo w hi, hs, Result.andThen, this]

theorem setCells_get {cs c : List AV} {o : Nat} (h : o + c.length ≤ cs.length) (j : Nat) : (setCells cs o c)[j]? = if o ≤ j ∧ j < o + c.length then c[j - o]? else cs[j]? := by
  unfold setCells
  by_cases h1 : j < o
  · rw [List.getElem?_append_left (by simp; omega), List.getElem?_take_of_lt h1, if_neg (by omega)]
  · rw [List.getElem?_append_right (by simp; omega)]
    simp only [List.length_take]
    rw [show min o cs.length = o by omega]
    by_cases h2 : j - o < c.length
    · rw [List.getElem?_append_left h2, if_pos (by omega)]
    · rw [List.getElem?_append_right (by omega), List.getElem?_drop, if_neg (by omega)]
      congr 1
      omega
theorem setCells_length {cs c : List AV} {o : Nat} (h : o + c.length ≤ cs.length) : (setCells cs o c).length = cs.length := by
  simp [setCells]; omega
theorem setList_get {cs c : List Value} {o : Nat} (h : o + c.length ≤ cs.length) (j : Nat) : ((cs.take o ++ c ++ cs.drop (o + c.length)).toArray[j]? : Option Value) = if o ≤ j ∧ j < o + c.length then c[j - o]? else cs[j]? := by
  rw [List.getElem?_toArray, List.append_assoc]
  by_cases h1 : j < o
  · rw [List.getElem?_append_left (by simp; omega), List.getElem?_take_of_lt h1, if_neg (by omega)]
  · rw [List.getElem?_append_right (by simp; omega)]
    simp only [List.length_take]
    rw [show min o cs.length = o by omega]
    by_cases h2 : j - o < c.length
    · rw [List.getElem?_append_left h2, if_pos (by omega)]
    · rw [List.getElem?_append_right (by omega), List.getElem?_drop, if_neg (by omega)]
      congr 1
      omega

theorem storeA_ok {P : Program} {o : Oper} {τ : Operand → AV} {H : Hp} {t : TypeId} {a x : Operand} {K : Hp → Prop} (ho : o.op = .store t a x) (h : storeA P H t (τ a) (τ x) K) (id : Nat) :
    ∃ H', K H' ∧ OpRun P o τ H id .any H' := by
  unfold storeA at h
  generalize ha : τ a = A at h
  generalize hx : cellsOf (τ x) = C at h
  split at h
  · rename_i i off c j hj
    split at h
    · rename_i ty cs hi
      split at h
      · rename_i hb
        simp only [Bool.and_eq_true] at hb
        have hb1 := Nat.eq_of_beq_eq_true hb.1
        have hb2 := Nat.le_of_ble_eq_true hb.2
        refine ⟨_, h, OpRun.of_skip fun N B D β w ρ h1 h2 h3 h4 h5 => ?_⟩
        rw [ho] at h5
        have ca := h5 a (by simp [Op.operands])
        rw [ha] at ca
        obtain ⟨q1, q2, q3⟩ := cellsOf_ok hx (h5 x (by simp [Op.operands]))
        obtain ⟨_, _, _, vs, g1, g2, g3⟩ := h1.blk i _ hi
        simp only [En.mk'_w, En.mk'_β] at g1
        have ea : ρ a = .pointer (some ⟨β i, off, none⟩) := by generalize ρ a = R at ca; cases ca; rfl
        have hrun := storeRun (P := P) (o := off) hj g1 (by omega) (by omega) q3
        refine ⟨_, by simp only [execOp, ho, ea]; rw [Sem.run_bind, hrun]; rfl, Post.set id h1 hi g1 (setRow_heap w _ vs _ ty _ g1) (by simp; omega) (fun k hk => setRow_other _ _ _ _ hk) (setRow_size _ _ _) ⟨rfl, rfl, rfl⟩ (fun E' hle hw => ?_) (fun E' hle => .any _)⟩
        refine ⟨_, by rw [hw]; exact setRow_heap w _ vs _ ty _ g1, by rw [setCells_length (by omega)]; simp; omega, fun k b v hk hv => ?_⟩
        rw [setCells_get (by omega)] at hk
        have hv' := setList_get (cs := vs.toList) (c := (ρ x).cells.toList) (o := off) (by simp; omega) k
        simp only [Array.length_toList] at hv'
        rw [hv'] at hv
        split at hk
        · rename_i hin
          rw [if_pos (by omega)] at hv
          exact (q2 _ b v hk (by simpa using hv)).mono hle
        · rename_i hin
          rw [if_neg (by omega)] at hv
          exact (g3 _ b v hk (by simpa using hv)).mono hle
      · exact h.elim
    · exact h.elim
  · rename_i i sz k off c j hj
    split at h
    · rename_i e sz' n get hi
      split at h
      · rename_i hb
        simp only [Bool.and_eq_true, Bool.not_eq_true'] at hb
        obtain ⟨hb0, hb1, hb2, hb3, hb4⟩ := hb
        obtain rfl := Nat.eq_of_beq_eq_true hb0
        have hb1 := Nat.eq_of_beq_eq_true hb1
        have hb2 := Nat.le_of_ble_eq_true hb2
        obtain ⟨hk, h⟩ := h
        refine ⟨_, h, OpRun.of_skip fun N B D β w ρ h1 h2 h3 h4 h5 => ?_⟩
        rw [ho] at h5
        have ca := h5 a (by simp [Op.operands])
        rw [ha] at ca
        obtain ⟨q1, q2, q3⟩ := cellsOf_ok hx (h5 x (by simp [Op.operands]))
        obtain ⟨_, _, _, vs, g1, g2, g3, g4, g5⟩ := h1.blk i _ hi
        simp only [En.mk'_w, En.mk'_β] at g1
        have ea : ρ a = .pointer (some ⟨β i, k * sz + off, none⟩) := by generalize ρ a = R at ca; cases ca; rfl
        have hks : k * sz + sz ≤ vs.size := by
          have : (k + 1) * sz ≤ n * sz := Nat.mul_le_mul_right _ hk
          rw [Nat.succ_mul] at this
          omega
        have hrun := storeRun (P := P) (o := k * sz + off) hj g1 (by omega) (by omega) q3
        refine ⟨_, by simp only [execOp, ho, ea]; rw [Sem.run_bind, hrun]; rfl, Post.set id h1 hi g1 (setRow_heap w _ vs _ e _ g1) (by simp; omega) (fun k hk => setRow_other _ _ _ _ hk) (setRow_size _ _ _) ⟨rfl, rfl, rfl⟩ (fun E' hle hw => ?_) (fun E' hle => .any _)⟩
        have hsz' := setList_get (cs := vs.toList) (c := (ρ x).cells.toList) (o := k * sz + off) (by simp; omega)
        simp only [Array.length_toList] at hsz'
        refine ⟨_, by rw [hw]; exact setRow_heap w _ vs _ e _ g1, by simp; omega, fun q hq => ?_, fun q m b v hq hm hv => ?_, fun hu => ?_⟩
        · by_cases hqk : q = k
          · subst hqk; rw [setAt_same, setCells_length (by rw [g3 q hq]; omega)]; exact g3 q hq
          · rw [setAt_ne _ _ _ hqk]; exact g3 q hq
        · rw [hsz' (q * sz + m)] at hv
          by_cases hqk : q = k
          · subst hqk
            rw [setAt_same, setCells_get (by rw [g3 q hq]; omega)] at hm
            split at hm
            · rename_i hin
              rw [if_pos (by omega)] at hv
              rw [show q * sz + m - (q * sz + off) = m - off by omega] at hv
              exact (q2 _ b v hm (by simpa using hv)).mono hle
            · rename_i hin
              rw [if_neg (by omega)] at hv
              exact (g4 q m b v hq hm (by simpa using hv)).mono hle
          · rw [setAt_ne _ _ _ hqk] at hm
            have hmlt : m < sz := by have := (List.getElem?_eq_some_iff.1 hm).1; rw [g3 q hq] at this; exact this
            have : ¬ (k * sz + off ≤ q * sz + m ∧ q * sz + m < k * sz + off + (ρ x).cells.size) := by
              rcases Nat.lt_or_gt_of_ne hqk with hlt | hlt
              · have : (q + 1) * sz ≤ k * sz := Nat.mul_le_mul_right _ hlt
                rw [Nat.succ_mul] at this
                omega
              · have : (k + 1) * sz ≤ q * sz := Nat.mul_le_mul_right _ hlt
                rw [Nat.succ_mul] at this
                omega
            rw [if_neg this] at hv
            exact (g4 q m b v hq hm (by simpa using hv)).mono hle
        · unfold u8B at hb3
          rw [hu] at hb3
          cases hb3
      · exact h.elim
    · exact h.elim
  · exact h.elim

/-! ### 10. Rows laid to rest; rows made; append -/
theorem le_sub {w : World} {β : Nat → Nat} {N : Nat → Prop} {H H' : Hp} {B : Nat} {D : Nat → Prop} (hs : Sub H' H) : (En.mk' w β N H B D).le (En.mk' w β N H' B D) :=
  ⟨fun _ _ _ h => h, fun g _ h => by
    rcases h with h | ⟨i, b, hi, he⟩
    · exact .inl h
    · exact .inr ⟨i, b, hs i b hi, he⟩, fun _ _ => rfl, fun _ h => h, Nat.le_refl _, fun _ cs t h => ⟨cs, h, rfl⟩, Nat.le_refl _⟩
theorem HpOk.sub {P : Program} {w : World} {β : Nat → Nat} {N : Nat → Prop} {H H' : Hp} {B : Nat} {D : Nat → Prop} (h : HpOk P (En.mk' w β N H B D) H) (hs : Sub H' H) : HpOk P (En.mk' w β N H' B D) H' :=
  ⟨fun i b hi => by
    obtain ⟨h1, h2, h3, h4⟩ := h.blk i b (hs i b hi)
    exact ⟨h1, .inr ⟨i, b, hi, rfl⟩, h3, h4.mono (le_sub hs) rfl⟩, fun i j b c hi hj => h.inj i j b c (hs i b hi) (hs j c hj)⟩

def frzP (H : Hp) : AV → Prop
  | .own id sz off n => match H id with
    | some (.arr _ sz' m _) => sz = sz' ∧ off + n ≤ m
    | _ => False
  | _ => True
def frzA (H : Hp) : AV → AV
  | .own id sz off n => match H id with
    | some (.arr _ _ _ get) => .ro true sz n fun i => get (off + i)
    | _ => .any
  | a => a
def rem1 (H : Hp) : AV → Hp
  | .own id _ _ _ => upd H id none
  | _ => H
def remO (H : Hp) : List AV → Hp
  | [] => H
  | a :: cs => remO (rem1 H a) cs
theorem rem1_sub (H : Hp) (a : AV) : Sub (rem1 H a) H := by
  intro j b hj
  cases a <;> try exact hj
  rename_i id sz off n
  simp only [rem1] at hj
  by_cases h : j = id
  · subst h; rw [upd_same] at hj; cases hj
  · rwa [upd_ne _ _ h] at hj
theorem remO_sub : ∀ (cs : List AV) (H : Hp), Sub (remO H cs) H
  | [], H => Sub.refl H
  | a :: cs, H => fun j b hj => rem1_sub H a j b (remO_sub cs _ j b hj)
theorem remO_none : ∀ (cs : List AV) (H : Hp) (id sz off n : Nat), AV.own id sz off n ∈ cs → remO H cs id = none
  | [], _, _, _, _, _, h => by cases h
  | a :: cs, H, id, sz, off, n, h => by
    rcases List.mem_cons.1 h with rfl | h
    · cases hr : remO H (.own id sz off n :: cs) id with
      | none => rfl
      | some b =>
        have := remO_sub cs (upd H id none) id b hr
        rw [upd_same] at this
        cases this
    · exact remO_none cs _ id sz off n h
theorem frz_ok {P : Program} {w : World} {β : Nat → Nat} {N : Nat → Prop} {H H' : Hp} {B : Nat} {D : Nat → Prop} (hh : HpOk P (En.mk' w β N H B D) H) (hN : ∀ g, N g → g < B) (hs : Sub H' H)
    {a : AV} {v : Value} (hrem : ∀ id sz off n, a = .own id sz off n → H' id = none) (hp : frzP H a) (hc : Cv P (En.mk' w β N H B D) a v) : Cv P (En.mk' w β N H' B D) (frzA H a) v := by
  cases a <;> try exact hc.mono (le_sub hs)
  rename_i id sz off n
  simp only [frzP] at hp
  simp only [frzA]
  cases hi : H id with
  | none => rw [hi] at hp; exact hp.elim
  | some b =>
    cases b with
    | sit _ _ => rw [hi] at hp; exact hp.elim
    | map _ _ => rw [hi] at hp; exact hp.elim
    | smap _ _ _ _ => rw [hi] at hp; exact hp.elim
    | mit _ _ _ _ => rw [hi] at hp; exact hp.elim
    | loop _ _ _ _ _ _ _ _ => rw [hi] at hp; exact hp.elim
    | dfr => rw [hi] at hp; exact hp.elim
    | junk => rw [hi] at hp; exact hp.elim
    | box t cs => rw [hi] at hp; exact hp.elim
    | arr e sz' m get =>
      rw [hi] at hp
      obtain ⟨rfl, hm⟩ := hp
      obtain ⟨_, _, hB, vs, g1, g2, g3, g4, g5⟩ := hh.blk id _ hi
      have hM : ¬ MS N β H' (β id) := by
        rintro (h | ⟨j, b, hj, he⟩)
        · have := hN _ h
          simp at hB
          omega
        · have := hh.inj j id b _ (hs j b hj) hi he
          subst this
          rw [hrem j _ _ _ rfl] at hj
          cases hj
      cases hc with
      | @own _ _ _ _ c A hD hcc hA hss hmm =>
        obtain ⟨o', rfl, ho⟩ := hA
        obtain ⟨cs2, t2, s1, s2⟩ := hss
        simp only [En.mk'_w, En.mk'_β] at g1 s1
        rw [g1] at s1
        cases s1
        have hge : n = 0 ∨ 0 < n := by omega
        refine .ro (fun i j => vs.getD ((off + i) * sz + j) undef) hcc (fun hn => ⟨β id, o', rfl, lt_of_heap g1, hM, fun i j hi' hj => ?_⟩) (fun i hi' => g3 _ (by omega)) (fun i j a hi' ha => ?_) (fun _ => ?_)
        · rw [ho (.inl (by omega))]
          have hb : (off + i) * sz + sz ≤ vs.size := by
            have : (off + i + 1) * sz ≤ m * sz := Nat.mul_le_mul_right _ (by omega)
            rw [Nat.succ_mul] at this
            omega
          refine obj_cell g1 ?_
          rw [show off * sz + i * sz + j = (off + i) * sz + j by rw [Nat.add_mul]]
          simp [Array.getD, show (off + i) * sz + j < vs.size by omega]
        · have hj : j < sz := by have := (List.getElem?_eq_some_iff.1 ha).1; rw [g3 _ (by omega)] at this; exact this
          have hb : (off + i) * sz + sz ≤ vs.size := by
            have : (off + i + 1) * sz ≤ m * sz := Nat.mul_le_mul_right _ (by omega)
            rw [Nat.succ_mul] at this
            omega
          refine (g4 (off + i) j a _ (by omega) ha ?_).mono (le_sub hs)
          simp [Array.getD, show (off + i) * sz + j < vs.size by omega]
        · by_cases hc0 : c = 0
          · exact .inl hc0
          · refine .inr ⟨β id, o', vs, e, rfl, by simpa using hB, hM, g1, ?_, g5⟩
            rw [ho (.inl (by omega)), ← s2, Nat.add_mul]
            exact Nat.le_refl _

def u8cell : AV → Bool
  | .int .u8 _ => true
  | _ => false
def rowGet (cs : List AV) (sz : Nat) : Nat → List AV := fun i => (cs.drop (i * sz)).take sz
def buildSliceA (P : Program) (H : Hp) (id : Nat) (t : TypeId) (len : Nat) (parts : List (Nat × AV)) (K : AV → Eff → Prop) : Prop :=
  match P.underlying t with
  | some (.slice e) => (match P.info? e with
    | some i => (match i.zero with
      | some z => (match fillA (fun k => some (k * i.size, i.size)) ((List.range (len * i.size)).map fun k => avCell (z.cells[k % z.cells.size]!)) parts with
        | some cs => if Nat.ble (len * i.size) 16777216 && (Nat.ble len 16777216 && (!u8B P e || cs.all u8cell)) then
            (if cs.all noOwn then K (.own id i.size 0 len) (.new [.arr e i.size len (rowGet cs i.size)])
              else (∀ a ∈ cs, frzP H a) ∧ K (.own id i.size 0 len) (.set (addB (remO H cs) id [.arr e i.size len (rowGet (cs.map (frzA H)) i.size)]))) else False
        | none => False)
      | none => False)
    | none => False)
  | _ => False

theorem buildSlice_run {P : Program} {w : World} {t e : TypeId} {i : TypeInfo} {z : Value} {len : Nat} {parts : Array (Nat × Value)} {vout : Array Value} (hu : P.underlying t = some (.slice e)) (hi : P.info? e = some i) (hz : i.zero = some z)
    (hl : len * i.size ≤ 16777216) (hf : Instr.fill (fun k => some (k * i.size, i.size)) ((Array.range (len * i.size)).map fun k => z.cells[k % z.cells.size]!) parts.toList = some vout) :
    (Instr.buildSlice t len parts).run P w = .ok (.slice (some ⟨w.heap.size, 0, none⟩) len len) (w.alloc (.cells vout e)) := by
  have hzr : (if len * i.size = 0 then (pure #[] : Sem (Array Value)) else do pure (← zeroValue e).cells).run P w = .ok (if len * i.size = 0 then #[] else z.cells) w := by
    split
    · rfl
    · simp [zeroValue, run_typeInfo w hi, hz, Result.andThen]
  have hfill : Instr.fill (fun k => some (k * i.size, i.size)) ((Array.range (len * i.size)).map fun k => (if len * i.size = 0 then #[] else z.cells)[k % (if len * i.size = 0 then #[] else z.cells).size]!) parts.toList = some vout := by
    rw [← hf]
    have : ((Array.range (len * i.size)).map fun k => (if len * i.size = 0 then #[] else z.cells)[k % (if len * i.size = 0 then #[] else z.cells).size]!) = (Array.range (len * i.size)).map fun k => z.cells[k % z.cells.size]! := by
      by_cases h0 : len * i.size = 0
      · rw [h0]; apply Array.ext <;> simp
      · simp only [if_neg h0]
    rw [this]
  unfold Instr.buildSlice
  simp only [Sem.run_bind, run_underlying hu, Result.andThen_ok, sizeOf, run_typeInfo w hi, Sem.run_pure]
  rw [if_neg (by omega)]
  by_cases h0 : len * i.size = 0
  · simp only [if_pos h0] at hfill ⊢
    simp only [Sem.run_bind, Sem.run_pure, Result.andThen_ok, hfill, newRow, run_newObj]
    rfl
  · simp only [if_neg h0] at hfill ⊢
    simp only [Sem.run_bind, Sem.run_pure, Result.andThen_ok, zeroValue, run_typeInfo w hi, hz, hfill, newRow, run_newObj]
    rfl

theorem rowGet_spec {cs : List AV} {sz len : Nat} (h : cs.length = len * sz) {i : Nat} (hi : i < len) : (rowGet cs sz i).length = sz ∧ ∀ j, j < sz → (rowGet cs sz i)[j]? = cs[i * sz + j]? := by
  have hb : i * sz + sz ≤ cs.length := by
    have : (i + 1) * sz ≤ len * sz := Nat.mul_le_mul_right _ hi
    rw [Nat.succ_mul] at this
    omega
  refine ⟨by simp [rowGet]; omega, fun j hj => ?_⟩
  rw [rowGet, List.getElem?_take_of_lt hj, List.getElem?_drop]

theorem u8_of_cells {P : Program} {E : En} {e : TypeId} {cs : List AV} {vs : Array Value} (hr : Rl P E cs vs) (h : (!u8B P e || cs.all u8cell) = true) : U8ok P e vs := by
  intro hu k x hx
  simp only [Bool.or_eq_true, Bool.not_eq_true'] at h
  rcases h with h | h
  · unfold u8B at h; rw [hu] at h; cases h
  · have hk : k < cs.length := by have := (Array.getElem?_eq_some_iff.1 hx).1; rw [hr.1] at this; exact this
    have h1 := List.all_eq_true.1 h _ (List.getElem_mem hk)
    have h2 := hr.2 k cs[k] x (List.getElem?_eq_getElem hk) hx
    generalize cs[k] = a at h1 h2
    cases a <;> simp [u8cell] at h1
    rename_i kd n
    cases kd <;> simp at h1
    cases h2
    exact ⟨_, rfl⟩

theorem Post.of_sub {P : Program} {N : Nat → Prop} {B : Nat} {D : Nat → Prop} {β : Nat → Nat} {H H1 H' : Hp} {w w' : World} {id : Nat} {a : AV} {v : Value} (hs : Sub H1 H) (h : Post P N B D β H1 w id a H' v w') : Post P N B D β H w id a H' v w' := by
  obtain ⟨β', h1, h2, h3, h4⟩ := h
  exact ⟨β', (le_sub hs).trans h1, h2, h3, h4.os, h4.tape, h4.output, h4.size, fun k hk hno => h4.block k hk fun i b hi => hno i b (hs i b hi)⟩

theorem buildSliceA_ok {P : Program} {o : Oper} {τ : Operand → AV} {H : Hp} {id : Nat} {t : TypeId} {len : Nat} {parts : Array (Nat × Operand)} {K : AV → Eff → Prop} (ho : o.op = .buildSlice t len parts)
    (h : buildSliceA P H id t len (parts.toList.map fun p => (p.1, τ p.2)) K) :
    ∃ a eff, K a eff ∧ (eff.grows = true → ∀ H2, Sub H H2 → OpRun P o τ H2 id a (eff.app H2 id)) ∧ OpRun P o τ H id a (eff.app H id) := by
  unfold buildSliceA at h
  split at h
  case h_2 => exact h.elim
  rename_i e hu
  split at h
  case h_2 => exact h.elim
  rename_i i hi
  split at h
  case h_2 => exact h.elim
  rename_i z hz
  split at h
  case h_2 => exact h.elim
  rename_i cs hf
  split at h
  case isFalse => exact h.elim
  rename_i hb
  simp only [Bool.and_eq_true] at hb
  have hl := Nat.le_of_ble_eq_true hb.1
  have hlm : len ≤ maxLen := Nat.le_trans (Nat.le_of_ble_eq_true hb.2.1) (by simp [maxLen])
  have hu8 := hb.2.2
  -- what is built, in whatever state
  have built : ∀ (E : En) (ρ : Operand → Value), (∀ x ∈ o.op.operands, Cv P E (τ x) (ρ x)) → ∃ vout : Array Value, Rl P E cs vout ∧ vout.size = len * i.size ∧
      (execOp ρ o).run P E.w = .ok (.value (.slice (some ⟨E.w.heap.size, 0, none⟩) len len)) (E.w.alloc (.cells vout e)) := by
    intro E ρ hρ
    have hz0 : Rl P E ((List.range (len * i.size)).map fun k => avCell (z.cells[k % z.cells.size]!)) ((Array.range (len * i.size)).map fun k => z.cells[k % z.cells.size]!) := by
      have := Rl.zero P E ((Array.range (len * i.size)).map fun k => z.cells[k % z.cells.size]!)
      simpa [List.map_map, Function.comp_def] using this
    obtain ⟨vout, f1, f2, f3⟩ := fillA_ok (P := P) (E := E) (parts.toList.map fun p => (p.1, τ p.2)) (parts.map fun (i, x) => (i, ρ x)).toList _ cs _ hf hz0 (by simp)
      (fun j i i' a v p1 p2 => by
        simp only [Array.toList_map, List.getElem?_map, Array.getElem?_toList] at p1 p2
        cases hj : (parts[j]? : Option (Nat × Operand)) with
        | none => simp [hj] at p1
        | some p =>
          simp only [hj, Option.map_some, Option.some.injEq, Prod.mk.injEq] at p1 p2
          obtain ⟨rfl, rfl⟩ := p1
          obtain ⟨rfl, rfl⟩ := p2
          refine ⟨rfl, hρ p.2 ?_⟩
          rw [ho]
          simp only [Op.operands, List.mem_toArray]
          exact List.mem_map.2 ⟨p, by simpa using Array.mem_of_getElem? hj, rfl⟩)
    refine ⟨vout, f2, by rw [f3]; simp, ?_⟩
    have hrun := buildSlice_run (P := P) (w := E.w) (parts := parts.map fun (i, x) => (i, ρ x)) hu hi hz hl f1
    simp only [execOp, ho]
    rw [Sem.run_bind, hrun]
    rfl
  have row : ∀ (E E' : En) (cs' : List AV) (vout : Array Value) (g : Nat), Rl P E' cs' vout → vout.size = len * i.size → E'.w.heap[g]? = some (.cells vout e (0, 0)) → U8ok P e vout → BlkOk P E' g (.arr e i.size len (rowGet cs' i.size)) := by
    intro E E' cs' vout g hr hs hg hu
    have hlen : cs'.length = len * i.size := by rw [← hr.1, hs]
    refine ⟨vout, hg, by omega, fun k hk => (rowGet_spec hlen hk).1, fun k j a v hk ha hv => ?_, hu⟩
    have hj : j < i.size := by have := (List.getElem?_eq_some_iff.1 ha).1; rw [(rowGet_spec hlen hk).1] at this; exact this
    rw [(rowGet_spec hlen hk).2 j hj] at ha
    exact hr.2 _ a v ha hv
  have self : ∀ (E' : En) (vout : Array Value), vout.size = len * i.size → E'.w.heap[E'.β id]? = some (.cells vout e (0, 0)) → E'.D id → len ≤ maxLen → Cv P E' (.own id i.size 0 len) (.slice (some ⟨E'.β id, 0, none⟩) len len) := by
    intro E' vout hs hg hD hm
    exact .own hD (Nat.le_refl _) ⟨0, rfl, fun _ => by simp⟩ ⟨vout, e, hg, by rw [hs, Nat.zero_add]⟩ (by omega)
  split at h
  · rename_i hno
    have gen : ∀ H2, OpRun P o τ H2 id (.own id i.size 0 len) (addB H2 id [.arr e i.size len (rowGet cs i.size)]) := fun H2 =>
      OpRun.of_run fun N B D β w ρ h1 h2 h3 h4 h5 => by
        obtain ⟨vout, hr, hs, hrun⟩ := built (En.mk' w β N H2 B D) ρ h5
        refine ⟨_, _, hrun, Post.new (vs := vout) (t := e) h2 h1 h3 (fun k hk => Below.heap_alloc w _ k hk) (heap_alloc_new w _) ⟨rfl, rfl, rfl⟩ (fun E' hle hw => ?_) (fun E' hle hw hβ hD => ?_)⟩
        · exact row E' E' cs vout _ (hr.mono hle) hs (by rw [hw]; exact heap_alloc_new w _) (u8_of_cells hr hu8)
        · have := self E' vout hs (by rw [hβ, hw]; exact heap_alloc_new w _) hD hlm
          rwa [hβ] at this
    exact ⟨_, _, h, fun _ H2 _ => gen H2, gen H⟩
  · obtain ⟨hfz, h⟩ := h
    refine ⟨_, _, h, fun hg => by simp [Eff.grows] at hg, OpRun.of_run fun N B D β w ρ h1 h2 h3 h4 h5 => ?_⟩
    obtain ⟨vout, hr, hs, hrun⟩ := built (En.mk' w β N H B D) ρ h5
    have hsub := remO_sub cs H
    have hr' : Rl P (En.mk' w β N (remO H cs) B D) (cs.map (frzA H)) vout := by
      refine ⟨by rw [hr.1]; simp, fun j a v ha hv => ?_⟩
      rw [List.getElem?_map] at ha
      cases hj : cs[j]? with
      | none => simp [hj] at ha
      | some b =>
        simp only [hj, Option.map_some, Option.some.injEq] at ha
        subst ha
        have hm := List.mem_of_getElem? hj
        exact frz_ok h1 h4 hsub (fun id' sz off n e' => remO_none cs H id' sz off n (e' ▸ hm)) (hfz b hm) (hr.2 j b v hj hv)
    refine ⟨_, _, hrun, Post.of_sub hsub (Post.new (vs := vout) (t := e) h2 (h1.sub hsub) h3 (fun k hk => Below.heap_alloc w _ k hk) (heap_alloc_new w _) ⟨rfl, rfl, rfl⟩ (fun E' hle hw => ?_) (fun E' hle hw hβ hD => ?_))⟩
    · exact row E' E' _ vout _ (hr'.mono hle) hs (by rw [hw]; exact heap_alloc_new w _) (u8_of_cells hr hu8)
    · have := self E' vout hs (by rw [hβ, hw]; exact heap_alloc_new w _) hD hlm
      rwa [hβ] at this

/-! ### 11. append -/
def newsA (H : Hp) (x : AV) (K : Nat → Nat → (Nat → List AV) → Prop) : Prop :=
  match x with
  | .ro _ sz n get => (∀ i, i < n → (get i).all isCell = true) ∧ K sz n get
  | .own id sz off n => (match H id with
    | some (.arr _ sz' m get) => if Nat.beq sz sz' then off + n ≤ m ∧ (∀ i, i < n → (get (off + i)).all isCell = true) ∧ K sz n (fun i => get (off + i)) else False
    | _ => False)
  | _ => False
/-- What is appended, as it lies. -/
def News (P : Program) (E : En) (sz n : Nat) (get : Nat → List AV) (v : Value) : Prop :=
  ∃ (A : Option Addr) (c : Nat) (news : List Value), v = .slice A n c ∧ news.length = n * sz ∧ (0 < n → ∃ ad, A = some ad ∧ ∀ j u, news[j]? = some u → E.w.cell? (ad.add j) = some u) ∧ (∀ u ∈ news, u.oneCell' = true) ∧
    (∀ i, i < n → (get i).length = sz) ∧ ∀ (i j : Nat) (a : AV) (u : Value), i < n → (get i)[j]? = some a → news[i * sz + j]? = some u → Cv P E a u

theorem flat_get {sz : Nat} {f : Nat → Nat → Value} {n : Nat} (k : Nat) : ((List.range (n * sz)).map fun k => f (k / sz) (k % sz))[k]? = if k < n * sz then some (f (k / sz) (k % sz)) else none := by
  by_cases h : k < n * sz
  · simp [h]
  · simp [h]

theorem newsA_ok {P : Program} {H : Hp} {x : AV} {K : Nat → Nat → (Nat → List AV) → Prop} (h : newsA H x K) :
    ∃ sz n get, K sz n get ∧ ∀ (E : En) (v : Value), HpOk P E H → Cv P E x v → News P E sz n get v := by
  have gen : ∀ (E : En) (sz n : Nat) (get : Nat → List AV) (A : Option Addr) (c : Nat) (val : Nat → Nat → Value), (0 < n → ∃ g o, A = some ⟨g, o, none⟩ ∧ ∀ i j, i < n → j < sz → E.w.cell? ⟨g, o + i * sz + j, none⟩ = some (val i j)) →
      (∀ i, i < n → (get i).length = sz) → (∀ i j a, i < n → (get i)[j]? = some a → Cv P E a (val i j)) → (∀ i, i < n → (get i).all isCell = true) → News P E sz n get (.slice A n c) := by
    intro E sz n get A c val h1 h2 h3 h4
    have dm : ∀ k, k < n * sz → k / sz < n ∧ k % sz < sz := fun k hk => by
      have hp : 0 < sz := by
        rcases Nat.eq_zero_or_pos sz with h | h
        · subst h; simp at hk
        · exact h
      exact ⟨(Nat.div_lt_iff_lt_mul hp).2 hk, Nat.mod_lt _ hp⟩
    have one : ∀ i j, i < n → j < sz → (val i j).oneCell' = true := fun i j hi hj => by
      have hlt : j < (get i).length := by rw [h2 i hi]; exact hj
      have := List.all_eq_true.1 (h4 i hi) _ (List.getElem_mem hlt)
      exact (isCell_one this (h3 i j _ hi (List.getElem?_eq_getElem hlt))).1
    refine ⟨A, c, (List.range (n * sz)).map fun k => val (k / sz) (k % sz), rfl, by simp, fun hn => ?_, fun u hu => ?_, h2, fun i j a u hi ha hu => ?_⟩
    · obtain ⟨g, o, rfl, hc⟩ := h1 hn
      refine ⟨_, rfl, fun j u hj => ?_⟩
      rw [flat_get] at hj
      split at hj
      · rename_i hlt
        cases hj
        obtain ⟨q1, q2⟩ := dm j hlt
        rw [addr_add, ← hc _ _ q1 q2]
        congr 2
        rw [Nat.add_assoc]
        congr 1
        rw [Nat.mul_comm]
        exact (Nat.div_add_mod j sz).symm
      · cases hj
    · obtain ⟨k, hk, rfl⟩ := List.mem_map.1 hu
      obtain ⟨q1, q2⟩ := dm k (List.mem_range.1 hk)
      exact one _ _ q1 q2
    · have hj : j < sz := by have := (List.getElem?_eq_some_iff.1 ha).1; rw [h2 i hi] at this; exact this
      rw [flat_get] at hu
      split at hu
      · cases hu
        have e1 : (i * sz + j) / sz = i := by rw [Nat.add_comm, Nat.add_mul_div_right _ _ (by omega), Nat.div_eq_of_lt hj]; omega
        have e2 : (i * sz + j) % sz = j := by rw [Nat.add_comm, Nat.add_mul_mod_self_right]; exact Nat.mod_eq_of_lt hj
        rw [e1, e2]
        exact h3 i j a hi ha
      · cases hu
  unfold newsA at h
  split at h
  · rename_i b sz n get
    obtain ⟨hc, h⟩ := h
    refine ⟨_, _, _, h, fun E v hh hv => ?_⟩
    cases hv with
    | ro val hcc hA hl hv hb => exact gen E sz n get _ _ val (fun hn => by obtain ⟨g, o, e, _, _, q⟩ := hA hn; exact ⟨g, o, e, q⟩) hl hv hc
  · rename_i id sz off n
    split at h
    · rename_i e sz' m get hi
      split at h
      · rename_i hb
        obtain rfl := Nat.eq_of_beq_eq_true hb
        obtain ⟨hm, hc, h⟩ := h
        refine ⟨_, _, _, h, fun E v hh hv => ?_⟩
        obtain ⟨_, _, _, vs, g1, g2, g3, g4, g5⟩ := hh.blk id _ hi
        cases hv with
        | own hD hcc hA hss hmm =>
          obtain ⟨o', rfl, ho⟩ := hA
          have hbd : ∀ i j, i < n → j < sz → (off + i) * sz + j < vs.size := fun i j hi hj => by
            have : (off + i + 1) * sz ≤ m * sz := Nat.mul_le_mul_right _ (by omega)
            rw [Nat.succ_mul] at this
            omega
          refine gen E sz n _ _ _ (fun i j => vs.getD ((off + i) * sz + j) undef) (fun hn => ⟨_, _, rfl, fun i j hi hj => obj_cell g1 ?_⟩) (fun i hi => g3 _ (by omega)) (fun i j a hi ha => ?_) hc
          · rw [ho (.inl (by omega)), show off * sz + i * sz + j = (off + i) * sz + j by rw [Nat.add_mul]]
            simp [Array.getD, hbd i j hi hj]
          · have hj : j < sz := by have := (List.getElem?_eq_some_iff.1 ha).1; rw [g3 _ (by omega)] at this; exact this
            refine g4 (off + i) j a _ (by omega) ha ?_
            simp [Array.getD, hbd i j hi hj]
      · exact h.elim
    · exact h.elim
  · exact h.elim

def isU8v : Value → Bool
  | .int .u8 _ => true
  | _ => false
def catGet (m : Nat) (g1 g2 : Nat → List AV) : Nat → List AV := fun k => bif Nat.ble (k + 1) m then g1 k else g2 (k - m)
theorem catGet_lt {m k : Nat} (g1 g2 : Nat → List AV) (h : k < m) : catGet m g1 g2 k = g1 k := by
  have : Nat.ble (k + 1) m = true := Nat.ble_eq.mpr h
  simp [catGet, this]
theorem catGet_ge {m k : Nat} (g1 g2 : Nat → List AV) (h : m ≤ k) : catGet m g1 g2 k = g2 (k - m) := by
  have : Nat.ble (k + 1) m = false := by rw [Bool.eq_false_iff]; intro e; have := Nat.le_of_ble_eq_true e; omega
  simp [catGet, this]
def u8row (P : Program) (e n : Nat) (get : Nat → List AV) : Prop := if u8B P e then ∀ k, k < n → ∃ q, get k = [.int .u8 q] else True
def appendA (P : Program) (H : Hp) (id : Nat) (t : TypeId) (s x : AV) (K : AV → Eff → Prop) : Prop :=
  match P.underlying t with
  | some (.slice e) => (match P.info? e with
    | some i => (match i.zero with
      | some z => (match x with
        | .emp => (match s with
          | .emp => K s .none
          | .own .. => K s .none
          | .ro .. => K s .none
          | _ => False)
        | x => newsA H x fun sz n get => if Nat.beq i.size sz && (Nat.ble 1 sz && (Nat.beq z.cells.size sz && (!u8B P e || z.cells.toList.all isU8v))) then
            u8row P e n get ∧ (match s with
              | .emp => 0 < n ∧ n * i.bytes ≤ 140737488355328 ∧ n ≤ maxLen ∧ K (.own id sz 0 n) (.set (addB H id [.arr e sz n get]))
              | .own i0 sz0 off m => (match H i0 with
                | some (.arr e0 sz1 m0 get0) => if Nat.beq off 0 && (Nat.beq e e0 && (Nat.beq sz sz0 && Nat.beq sz sz1)) then
                    m ≤ m0 ∧ (m + n) * i.bytes ≤ 140737488355328 ∧ m + n ≤ maxLen ∧ K (.own id sz 0 (m + n)) (.set (addB (upd H i0 none) id [.arr e sz (m + n) (catGet m get0 get)])) else False
                | _ => False)
              | _ => False) else False)
      | none => False)
    | none => False)
  | _ => False

theorem upd_none_sub (H : Hp) (i : Nat) : Sub (upd H i none) H := fun j b hj => by
  by_cases h : j = i
  · subst h; rw [upd_same] at hj; cases hj
  · rwa [upd_ne _ _ h] at hj

theorem append_nothing {P : Program} {t ty e : TypeId} {i : TypeInfo} (ht : P.underlying t = some (.slice e)) (hi : P.info? e = some i) (w : World) (A A' : Option Addr) (n c c' : Nat) (hnc : n ≤ c) :
    (Builtin.append_ #[t, t] ty #[.slice A n c, .slice A' 0 c']).run P w = .ok (.slice A n c) w := by
  cases A' <;> cases A <;> simp [Builtin.append_, run_underlying ht, sizeOf, typeInfo, hi, Builtin.lenOf, Builtin.firstCells, hnc, loadCells, loadCellsFrom, storeCells]

theorem zero_u8 {P : Program} {e : TypeId} {z : Value} {xs news : List Value} {k : Nat} (hz : (!u8B P e || z.cells.toList.all isU8v) = true) (hzp : 0 < z.cells.size)
    (hx : P.underlying e = some (.int .u8) → ∀ u ∈ xs ++ news, ∃ n, u = .int .u8 n) : U8ok P e (xs.toArray ++ news.toArray ++ Builtin.zeroCells z.cells k) := by
  intro hu q x hq
  have hm := Array.mem_of_getElem? hq
  simp only [Array.mem_append, List.mem_toArray] at hm
  rcases hm with hm | hm
  · exact hx hu x (by simpa using hm)
  · simp only [Builtin.zeroCells, Array.mem_map] at hm
    obtain ⟨j, _, rfl⟩ := hm
    simp only [Bool.or_eq_true, Bool.not_eq_true'] at hz
    rcases hz with hz | hz
    · unfold u8B at hz; rw [hu] at hz; cases hz
    · have hlt : j % z.cells.size < z.cells.size := Nat.mod_lt _ hzp
      have hmem : z.cells[j % z.cells.size]! ∈ z.cells.toList := by
        simp [getElem!_pos, hlt]
      have := List.all_eq_true.1 hz _ hmem
      generalize z.cells[j % z.cells.size]! = y at this
      cases y <;> simp [isU8v] at this
      rename_i kd n
      cases kd <;> simp at this
      exact ⟨_, rfl⟩

/-- The two ways of a row that grows. -/
theorem grow_ways {P : Program} {t ty e : TypeId} {i : TypeInfo} {z : Value} (ht : P.underlying t = some (.slice e)) (hi : P.info? e = some i) (hz : i.zero = some z) (hsz : 0 < i.size) (hzs : z.cells.size = i.size)
    (w : World) (A : Option Addr) (m c : Nat) (xs : List Value) (hx : xs.length = m * i.size) (hA : A = none → m = 0 ∧ c = 0) (hxs : ∀ ad, A = some ad → ∀ j u, xs[j]? = some u → w.cell? (ad.add j) = some u)
    (a : Addr) (n c' : Nat) (news : List Value) (hl : news.length = n * i.size) (hnews : ∀ j u, news[j]? = some u → w.cell? (a.add j) = some u) (hn : 0 < n) (hg : c < m + n) (h63 : m + n ≤ maxLen) (hb : (m + n) * i.bytes ≤ 140737488355328) :
    ∃ cap cells, (Builtin.append_ #[t, t] ty #[.slice A m c, .slice (some a) n c']).run P w = .ok (.slice (some ⟨w.heap.size, 0, none⟩) (m + n) cap) (w.drew.alloc (.cells cells e)) ∧ m + n ≤ cap ∧ cap ≤ maxLen ∧
      cells = xs.toArray ++ news.toArray ++ Builtin.zeroCells z.cells (cap - (m + n)) ∧ cells.size = cap * i.size := by
  have hc1 := grownCap_ge w (m + n) c e
  have hc2 := grownCap_le_maxLen w (m + n) c e h63
  have hml : maxLen = 9223372036854775807 := rfl
  refine ⟨grownCap w (m + n) c e, _, ?_, hc1, hc2, rfl, ?_⟩
  · cases A with
    | none =>
      obtain ⟨rfl, rfl⟩ := hA rfl
      obtain rfl : xs = [] := List.eq_nil_of_length_eq_zero (by simpa using hx)
      have := run_append_nil (P := P) w t ty e i z ht hi hz a n c' news hl hnews hn (by omega) (by simp at hb; omega)
      simpa using this
    | some ad =>
      exact run_append_grow (P := P) w t ty e i z ht hi hz ad m c xs hx (hxs ad rfl) a n c' news hl hnews hg (by omega) (growslice_fits hg hb)
  · simp only [Array.size_append, List.size_toArray, hx, hl, Builtin.zeroCells, Array.size_map, Array.size_range, hzs]
    rw [← Nat.add_mul, ← Nat.add_mul]
    congr 1
    omega

theorem getD_row {cells : Array Value} {k : Nat} (h : k < cells.size) : (cells[k]? : Option Value) = some (cells.getD k undef) := by simp [Array.getD, h]

/-- A row goes on under another name, written or not. -/
theorem Post.move {P : Program} {N : Nat → Prop} {B : Nat} {D : Nat → Prop} {β : Nat → Nat} {H : Hp} {w w' : World} {id : Nat} (hid : ∀ j, id ≤ j → j < id + 4 → ¬ D j) (hh : HpOk P (En.mk' w β N H B D) H)
    {i0 : Nat} {b b' : Blk} {vs vs' : Array Value} {t : TypeId} (hi : H i0 = some b) (hg : w.heap[β i0]? = some (.cells vs t (0, 0))) (hg' : w'.heap[β i0]? = some (.cells vs' t (0, 0))) (hsz : vs'.size = vs.size)
    (h1 : ∀ k, k ≠ β i0 → w'.heap[k]? = w.heap[k]?) (hs : w'.heap.size = w.heap.size) (h3 : w'.os = w.os ∧ w'.tape = w.tape ∧ w'.output = w.output)
    (hb : ∀ E' : En, (En.mk' w β N H B D).le E' → E'.w = w' → BlkOk P E' (β i0) b') {a : AV} {v : Value}
    (hv : ∀ E' : En, (En.mk' w β N H B D).le E' → E'.w = w' → E'.β id = β i0 → E'.D id → Cv P E' a v) :
    Post P N B D β H w id a (addB (upd H i0 none) id [b']) v w' := by
  have hDi := (hh.blk i0 b hi).1
  have hne : ∀ i, D i → i ≠ id := fun i hi e => hid i (by omega) (by omega) hi
  have look : ∀ i c, addB (upd H i0 none) id [b'] i = some c → (i = id ∧ c = b') ∨ (i ≠ id ∧ i ≠ i0 ∧ H i = some c) := by
    intro i c hic
    by_cases hii : id ≤ i ∧ i < id + [b'].length
    · rw [addB_in _ hii.1 hii.2] at hic
      have : i = id := by have := hii.2; simp at this; omega
      subst this
      simp at hic
      exact .inl ⟨rfl, hic.symm⟩
    · rw [addB_out _ hii] at hic
      have hni : i ≠ id := fun e => hii ⟨by omega, by simp; omega⟩
      by_cases hi0 : i = i0
      · subst hi0; rw [upd_same] at hic; cases hic
      · rw [upd_ne _ _ hi0] at hic; exact .inr ⟨hni, hi0, hic⟩
  have b0 : addβ β id 1 (fun _ => β i0) id = β i0 := by simp [addβ]
  have b1 : ∀ i, i ≠ id → addβ β id 1 (fun _ => β i0) i = β i := fun i h => by rw [addβ, if_neg (by omega)]
  have self : addB (upd H i0 none) id [b'] id = some b' := by rw [addB_in _ (Nat.le_refl _) (by simp)]; simp
  have hle : (En.mk' w β N H B D).le (En.mk' w' (addβ β id 1 fun _ => β i0) N (addB (upd H i0 none) id [b']) B (Dn D id)) := by
    refine ⟨fun g o hM hgo => ?_, fun g _ hM => ?_, fun i hi' => b1 i (hne i hi'), fun i h => .inl h, Nat.le_refl _, fun g cs u hgg => ?_, Nat.le_of_eq hs.symm⟩
    · have : g ≠ β i0 := fun e => hM (.inr ⟨i0, b, hi, e.symm⟩)
      exact (h1 g this).trans hgo
    · rcases hM with hM | ⟨i, c, hic, he⟩
      · exact .inl hM
      · rcases look i c hic with ⟨rfl, rfl⟩ | ⟨q1, q2, q3⟩
        · rw [b0] at he; exact .inr ⟨i0, b, hi, he⟩
        · rw [b1 i q1] at he; exact .inr ⟨i, c, q3, he⟩
    · by_cases he : g = β i0
      · subst he
        simp only [En.mk'_w] at hgg ⊢
        rw [hg] at hgg
        cases hgg
        exact ⟨vs', hg', hsz⟩
      · exact ⟨cs, (h1 g he).trans hgg, rfl⟩
  refine ⟨_, hle, ⟨fun i c hic => ?_, fun i j c d hic hjd he => ?_⟩, hv _ hle rfl b0 (.inr ⟨Nat.le_refl _, by omega⟩), ⟨h3.1, h3.2.1, h3.2.2, Nat.le_of_eq hs.symm, fun k _ hno => h1 k (fun e => hno i0 b hi e.symm)⟩⟩
  · rcases look i c hic with ⟨rfl, rfl⟩ | ⟨q1, q2, q3⟩
    · simp only [En.mk'_β, b0]
      exact ⟨.inr ⟨Nat.le_refl _, by omega⟩, .inr ⟨i, c, hic, b0⟩, (hh.blk i0 b hi).2.2.1, hb _ hle rfl⟩
    · obtain ⟨r1, r2, r3, r4⟩ := hh.blk i c q3
      simp only [En.mk'_β, b1 i q1]
      exact ⟨.inl r1, .inr ⟨i, c, hic, b1 i q1⟩, r3, r4.mono hle (h1 _ fun e => q2 (hh.inj i i0 c b q3 hi e))⟩
  · simp only [En.mk'_β] at he
    rcases look i c hic with ⟨rfl, rfl⟩ | ⟨q1, q2, q3⟩ <;> rcases look j d hjd with ⟨rfl, rfl⟩ | ⟨r1, r2, r3⟩
    · rfl
    · rw [b0, b1 j r1] at he; exact absurd (hh.inj j i0 d b r3 hi he.symm) r2
    · rw [b0, b1 i q1] at he; exact absurd (hh.inj i i0 c b q3 hi he) q2
    · rw [b1 i q1, b1 j r1] at he; exact hh.inj i j c d q3 r3 he

theorem append_exec {P : Program} {o : Oper} {ρ : Operand → Value} {s x : Operand} {t : TypeId} (ho : o.op = .call ⟨.builtin .append, #[s, x], #[t, t]⟩) {w w' : World} {v : Value}
    (h : (Builtin.append_ #[t, t] o.type #[ρ s, ρ x]).run P w = .ok v w') : (execOp ρ o).run P w = .ok (.value v) w' := by
  rw [builtin_run ho]
  simp [builtin, h, Result.andThen]

theorem appendA_ok {P : Program} {o : Oper} {τ : Operand → AV} {H : Hp} {id : Nat} {t : TypeId} {s x : Operand} {K : AV → Eff → Prop} (ho : o.op = .call ⟨.builtin .append, #[s, x], #[t, t]⟩)
    (h : appendA P H id t (τ s) (τ x) K) : ∃ a eff, K a eff ∧ OpRun P o τ H id a (eff.app H id) := by
  unfold appendA at h
  split at h
  case h_2 => exact h.elim
  rename_i e hu
  split at h
  case h_2 => exact h.elim
  rename_i i hi
  split at h
  case h_2 => exact h.elim
  rename_i z hz
  have args : ∀ (E : En) (ρ : Operand → Value), (∀ y ∈ o.op.operands, Cv P E (τ y) (ρ y)) → Cv P E (τ s) (ρ s) ∧ Cv P E (τ x) (ρ x) := fun E ρ hρ => by
    rw [ho] at hρ
    exact ⟨hρ s (by simp [Op.operands, Call.operands]), hρ x (by simp [Op.operands, Call.operands])⟩
  generalize hX : τ x = X at h
  generalize hS : τ s = S at h
  split at h
  · -- nothing is appended
    have run : ∀ (E : En) (ρ : Operand → Value), (∀ y ∈ o.op.operands, Cv P E (τ y) (ρ y)) → (∀ v, Cv P E (τ s) v → ∃ A n c, v = .slice A n c ∧ n ≤ c) → (execOp ρ o).run P E.w = .ok (.value (ρ s)) E.w := by
      intro E ρ hρ hs
      obtain ⟨c1, c2⟩ := args E ρ hρ
      obtain ⟨A, n, c, e1, e2⟩ := hs _ c1
      rw [hX] at c2
      have : ∃ A', ρ x = .slice A' 0 0 := by generalize ρ x = R at c2; cases c2; exact ⟨_, rfl⟩
      obtain ⟨A', e3⟩ := this
      refine append_exec ho ?_
      rw [e1, e3]
      exact append_nothing hu hi E.w A A' n c 0 e2
    have fin : K S .none → (∀ E v, Cv P E S v → ∃ A n c, v = .slice A n c ∧ n ≤ c) → ∃ a eff, K a eff ∧ OpRun P o τ H id a (eff.app H id) := fun hk hs =>
      ⟨_, _, hk, OpRun.of_run fun N B D β w ρ h1 h2 h3 h4 h5 => ⟨_, _, run (En.mk' w β N H B D) ρ h5 (fun v hv => hs _ v (hS ▸ hv)), Post.same id h1 (hS ▸ (args _ ρ h5).1)⟩⟩
    split at h
    · exact fin h fun E v hv => by cases hv; exact ⟨_, _, _, rfl, Nat.le_refl _⟩
    · exact fin h fun E v hv => by cases hv; exact ⟨_, _, _, rfl, by assumption⟩
    · exact fin h fun E v hv => by cases hv; exact ⟨_, _, _, rfl, by assumption⟩
    · exact h.elim
  · -- something may be
    have hq := newsA_ok (P := P) h
    clear h
    obtain ⟨sz, n, get, h, hn⟩ := hq
    split at h
    case isFalse => exact h.elim
    rename_i hb
    simp only [Bool.and_eq_true] at hb
    obtain ⟨hb1, hb2, hb3, hb4⟩ := hb
    obtain rfl := Nat.eq_of_beq_eq_true hb1
    have hsz := Nat.le_of_ble_eq_true hb2
    have hzs := Nat.eq_of_beq_eq_true hb3
    obtain ⟨hu8, h⟩ := h
    have nu8 : ∀ (news : List Value) (E : En), P.underlying e = some (.int .u8) → (∀ i', i' < n → (get i').length = i.size) → news.length = n * i.size →
        (∀ (k j : Nat) (a : AV) (u : Value), k < n → (get k)[j]? = some a → news[k * i.size + j]? = some u → Cv P E a u) → ∀ u ∈ news, ∃ q, u = .int .u8 q := by
      intro news E he hlen hl hcv u hmem
      unfold u8row at hu8
      rw [if_pos (by unfold u8B; rw [he])] at hu8
      obtain ⟨k, hk, rfl⟩ := List.getElem_of_mem hmem
      by_cases hn0 : n = 0
      · subst hn0; omega
      · have h1 : i.size = 1 := by
          obtain ⟨q, hq⟩ := hu8 0 (by omega)
          have := hlen 0 (by omega)
          rw [hq] at this
          simpa using this.symm
        rw [h1] at hl hcv
        obtain ⟨q, hq⟩ := hu8 k (by omega)
        have := hcv k 0 (.int .u8 q) news[k] (by omega) (by rw [hq]; rfl) (by simp [List.getElem?_eq_getElem hk])
        generalize news[k] = y at this
        cases this
        exact ⟨_, rfl⟩
    split at h
    · -- onto nothing
      obtain ⟨hpos, hlim, hml, h⟩ := h
      refine ⟨_, _, h, OpRun.of_run fun N B D β w ρ h1 h2 h3 h4 h5 => ?_⟩
      obtain ⟨c1, c2⟩ := args _ ρ h5
      obtain ⟨A', c', news, e1, hl, had, hone, hlen, hcv⟩ := hn _ _ h1 (hX ▸ c2)
      obtain ⟨ad, rfl, hnews⟩ := had hpos
      rw [hS] at c1
      have hs : ∃ A, ρ s = .slice A 0 0 := by generalize ρ s = R at c1; cases c1; exact ⟨_, rfl⟩
      obtain ⟨A, e2⟩ := hs
      obtain ⟨cap, cells, hrun, g1, g2, g3, g4⟩ := grow_ways (P := P) (ty := o.type) hu hi hz (by omega) hzs w A 0 0 [] (by simp) (fun _ => ⟨rfl, rfl⟩) (fun _ _ j u hj => by simp at hj) ad n c' news hl hnews hpos (by omega) (by omega) (by simpa using hlim)
      simp only [Nat.zero_add] at hrun g1 g3
      have hcell : ∀ k, k < n * i.size → (cells[k]? : Option Value) = news[k]? := fun k hk => by
        rw [g3]
        simp only [List.nil_append, Array.getElem?_append]
        simp [hl, hk]
      refine ⟨_, _, append_exec ho (by rw [e1, e2]; exact hrun), Post.new (vs := cells) (t := e) h2 h1 h3 (fun k hk => Below.heap_alloc w.drew _ k hk) (heap_alloc_new w.drew _) ⟨rfl, rfl, rfl⟩ (fun E' hle hw => ?_) (fun E' hle hw hβ hD => ?_)⟩
      · refine ⟨cells, by rw [hw]; exact heap_alloc_new w.drew _, by rw [g4]; exact Nat.mul_le_mul_right _ g1, hlen, fun k j a v hk ha hv => ?_, ?_⟩
        · have hj : j < i.size := by have := (List.getElem?_eq_some_iff.1 ha).1; rw [hlen k hk] at this; exact this
          rw [hcell _ (by have : (k + 1) * i.size ≤ n * i.size := Nat.mul_le_mul_right _ hk
                          rw [Nat.succ_mul] at this; omega)] at hv
          exact (hcv k j a v hk ha hv).mono hle
        · rw [g3]
          exact zero_u8 hb4 (by omega) fun he u hm => nu8 news _ he hlen hl hcv u (by simpa using hm)
      · have : Cv P E' (.own id i.size 0 n) (.slice (some ⟨E'.β id, 0, none⟩) n cap) :=
          .own hD g1 ⟨0, rfl, fun _ => by simp⟩ ⟨cells, e, by rw [hβ, hw]; exact heap_alloc_new w.drew _, by rw [g4, Nat.zero_add]⟩ (by omega)
        rwa [hβ] at this
    · -- onto a row of one's own
      rename_i i0 sz0 off m
      split at h
      case h_2 => exact h.elim
      rename_i e0 sz1 m0 get0 hi0
      split at h
      case isFalse => exact h.elim
      rename_i hb5
      simp only [Bool.and_eq_true] at hb5
      obtain ⟨q1, q2, q3, q4⟩ := hb5
      obtain rfl := Nat.eq_of_beq_eq_true q1
      obtain rfl := Nat.eq_of_beq_eq_true q2
      obtain rfl := Nat.eq_of_beq_eq_true q3
      obtain rfl := Nat.eq_of_beq_eq_true q4
      obtain ⟨hm, hlim, hml, h⟩ := h
      refine ⟨_, _, h, OpRun.of_run fun N B D β w ρ h1 h2 h3 h4 h5 => ?_⟩
      obtain ⟨c1, c2⟩ := args _ ρ h5
      obtain ⟨A', c', news, e1, hl, had, hone, hlen, hcv⟩ := hn _ _ h1 (hX ▸ c2)
      obtain ⟨hD0, _, hB0, vs, p1, p2, p3, p4, p5⟩ := h1.blk i0 _ hi0
      simp only [En.mk'_w, En.mk'_β] at p1
      rw [hS] at c1
      obtain ⟨c, e2, hmc, hcs, hcm⟩ : ∃ c, ρ s = .slice (some ⟨β i0, 0, none⟩) m c ∧ m ≤ c ∧ c * i.size = vs.size ∧ c ≤ maxLen := by
        generalize ρ s = R at c1
        cases c1 with
        | own hD hcc hA hss hmm =>
          obtain ⟨o', rfl, hof⟩ := hA
          obtain ⟨cs2, t2, s1, s2⟩ := hss
          simp only [En.mk'_w, En.mk'_β] at s1
          rw [p1] at s1
          cases s1
          obtain rfl := hof (.inr rfl)
          exact ⟨_, by simp, hcc, by rw [← s2, Nat.zero_add], by omega⟩
      have rowAt : ∀ (cells : Array Value) (E' : En), (En.mk' w β N H B D).le E' → (m + n) * i.size ≤ cells.size → (∀ k, k < m * i.size → (cells[k]? : Option Value) = vs[k]?) → (∀ k, k < n * i.size → (cells[m * i.size + k]? : Option Value) = news[k]?) →
          ∀ g, E'.w.heap[g]? = some (.cells cells e (0, 0)) → U8ok P e cells → BlkOk P E' g (.arr e i.size (m + n) (catGet m get0 get)) := by
        intro cells E' hle hs hold hnew g hg hu
        have b : ∀ a b j : Nat, a < b → j < i.size → a * i.size + j < b * i.size := fun a b j h hj => by
          have : (a + 1) * i.size ≤ b * i.size := Nat.mul_le_mul_right _ h
          rw [Nat.succ_mul] at this
          omega
        refine ⟨cells, hg, hs, fun k hk => ?_, fun k j a v hk ha hv => ?_, hu⟩
        · by_cases hkm : k < m
          · rw [catGet_lt _ _ hkm]; exact p3 k (by omega)
          · rw [catGet_ge _ _ (by omega)]; exact hlen _ (by omega)
        · by_cases hkm : k < m
          · rw [catGet_lt _ _ hkm] at ha
            have hj : j < i.size := by have := (List.getElem?_eq_some_iff.1 ha).1; rw [p3 k (by omega)] at this; exact this
            rw [hold _ (b k m j hkm hj)] at hv
            exact (p4 k j a v (by omega) ha hv).mono hle
          · rw [catGet_ge _ _ (by omega)] at ha
            have hj : j < i.size := by have := (List.getElem?_eq_some_iff.1 ha).1; rw [hlen _ (by omega)] at this; exact this
            have e3 : k * i.size + j = m * i.size + ((k - m) * i.size + j) := by
              rw [← Nat.add_assoc, ← Nat.add_mul, show m + (k - m) = k by omega]
            rw [e3, hnew _ (b (k - m) n j (by omega) hj)] at hv
            exact (hcv (k - m) j a v (by omega) ha hv).mono hle
      have ownAt : ∀ (cells : Array Value) (E' : En) (g cap : Nat), E'.w.heap[g]? = some (.cells cells e (0, 0)) → cells.size = cap * i.size → m + n ≤ cap → cap ≤ maxLen → E'.β id = g → E'.D id → Cv P E' (.own id i.size 0 (m + n)) (.slice (some ⟨g, 0, none⟩) (m + n) cap) := by
        intro cells E' g cap hg hs h1 h2 hβ hD
        subst hβ
        exact .own hD h1 ⟨0, rfl, fun _ => by simp⟩ ⟨cells, e, hg, by rw [hs, Nat.zero_add]⟩ (by omega)
      by_cases hpos : 0 < n
      · obtain ⟨ad, rfl, hnews⟩ := had hpos
        by_cases hroom : m + n ≤ c
        · -- there is room
          have hfit : m * i.size + news.length ≤ vs.size := by rw [hl, ← hcs, ← Nat.add_mul]; exact Nat.mul_le_mul_right _ hroom
          have hrun := run_append_room (P := P) w t o.type e i hu hi (β i0) m c vs p1 ad n c' news hl hnews hone hroom hfit
          have hget := setList_get (cs := vs.toList) (c := news) (o := m * i.size) (by simpa using hfit)
          have hsz' : ((vs.toList.take (m * i.size) ++ news ++ vs.toList.drop (m * i.size + news.length)).toArray).size = vs.size := by
            simp only [List.size_toArray, List.length_append, List.length_take, List.length_drop, Array.length_toList]; omega
          refine ⟨_, _, append_exec ho (by rw [e1, e2]; exact hrun), Post.move h2 h1 hi0 p1 (setRow_heap w _ vs _ e _ p1) hsz' (fun k hk => setRow_other _ _ _ _ hk) (setRow_size _ _ _) ⟨rfl, rfl, rfl⟩ (fun E' hle hw => ?_) (fun E' hle hw hβ hD => ?_)⟩
          · refine rowAt _ E' hle (by rw [hsz', ← hcs]; exact Nat.mul_le_mul_right _ hroom) (fun k hk => ?_) (fun k hk => ?_) _ (by rw [hw]; exact setRow_heap w _ vs _ e _ p1) (fun hu => ?_)
            · rw [hget k, if_neg (by omega)]; simp
            · rw [hget (m * i.size + k), if_pos (by omega)]; congr 1; omega
            · intro k y hy
              rw [hget k] at hy
              split at hy
              · exact nu8 news _ hu hlen hl hcv y (List.mem_of_getElem? hy)
              · exact p5 hu k y (by simpa using hy)
          · exact ownAt _ E' _ c (by rw [hw]; exact setRow_heap w _ vs _ e _ p1) (by rw [hsz', hcs]) hroom hcm hβ hD
        · -- it grows
          have hxs : ∀ k, k < m * i.size → (vs.toList.take (m * i.size))[k]? = vs[k]? := fun k hk => by rw [List.getElem?_take_of_lt hk]; simp
          have hmv : m * i.size ≤ vs.size := by rw [← hcs]; exact Nat.mul_le_mul_right _ hmc
          obtain ⟨cap, cells, hrun, g1, g2, g3, g4⟩ := grow_ways (P := P) (ty := o.type) hu hi hz (by omega) hzs w (some ⟨β i0, 0, none⟩) m c (vs.toList.take (m * i.size)) (by simp; omega) (fun h => by cases h)
            (fun ad' he j u hj => by
              cases he
              have hlt : j < m * i.size := by have := (List.getElem?_eq_some_iff.1 hj).1; simp at this; omega
              rw [hxs j hlt] at hj
              rw [addr_add, Nat.zero_add]
              exact obj_cell p1 hj) ad n c' news hl hnews hpos (by omega) hml hlim
          have hsub := upd_none_sub H i0
          have hlen2 : (vs.toList.take (m * i.size)).length = m * i.size := by simp; omega
          refine ⟨_, _, append_exec ho (by rw [e1, e2]; exact hrun), Post.of_sub hsub (Post.new (vs := cells) (t := e) h2 (h1.sub hsub) h3 (fun k hk => Below.heap_alloc w.drew _ k hk) (heap_alloc_new w.drew _) ⟨rfl, rfl, rfl⟩ (fun E' hle hw => ?_) (fun E' hle hw hβ hD => ?_))⟩
          · refine rowAt cells E' ((le_sub hsub).trans hle) (by rw [g4]; exact Nat.mul_le_mul_right _ g1) (fun k hk => ?_) (fun k hk => ?_) _ (by rw [hw]; exact heap_alloc_new w.drew _) ?_
            · rw [g3, Array.append_assoc, Array.getElem?_append_left (by simp only [List.size_toArray, hlen2]; exact hk), List.getElem?_toArray, hxs k hk]
            · rw [g3, Array.append_assoc, Array.getElem?_append_right (by simp only [List.size_toArray, hlen2]; omega)]
              simp only [List.size_toArray, hlen2]
              rw [show m * i.size + k - m * i.size = k by omega, Array.getElem?_append_left (by simp only [List.size_toArray, hl]; exact hk), List.getElem?_toArray]
            · rw [g3]
              refine zero_u8 hb4 (by omega) fun he u hm => ?_
              rcases List.mem_append.1 hm with hm | hm
              · obtain ⟨k, hk⟩ := List.mem_iff_getElem?.1 (List.mem_of_mem_take hm)
                exact p5 he k u (by simpa using hk)
              · exact nu8 news _ he hlen hl hcv u hm
          · exact ownAt cells E' _ cap (by rw [hw]; exact heap_alloc_new w.drew _) g4 g1 g2 hβ hD
      · obtain rfl : n = 0 := by omega
        have hrun := append_nothing (P := P) (ty := o.type) hu hi w (some ⟨β i0, 0, none⟩) A' m c c' hmc
        refine ⟨_, _, append_exec ho (by rw [e1, e2]; exact hrun), Post.move h2 h1 hi0 p1 p1 rfl (fun _ _ => rfl) rfl ⟨rfl, rfl, rfl⟩ (fun E' hle hw => ?_) (fun E' hle hw hβ hD => ?_)⟩
        · exact rowAt vs E' hle (by rw [Nat.add_zero, ← hcs]; exact Nat.mul_le_mul_right _ hmc) (fun _ _ => rfl) (fun k hk => by simp at hk) _ (by rw [hw]; exact p1) p5
        · exact ownAt vs E' _ c (by rw [hw]; exact p1) hcs.symm (by omega) hcm hβ hD
    · exact h.elim

/-! ### 12. Calls of functions that only make -/
/-- As a callee sees it: what lies in own blocks is told outright. -/
def vwIn : Nat → AV → AV
  | 0, _ => .any
  | d + 1, .ro _ sz n get => .ro false sz n fun i => (get i).map (vwIn d)
  | d + 1, .pv cs => .pv (cs.map (vwIn d))
  | d + 1, .agg cs => .agg (cs.map (vwIn d))
  | d + 1, .tup cs => .tup (cs.map (vwIn d))
  | d + 1, .fn f a b => .fn f (a.map (vwIn d)) (b.map (vwIn d))
  | _ + 1, .own .. => .any
  | _ + 1, .ptr .. => .any
  | _ + 1, .ept .. => .any
  | _ + 1, .fr .. => .any
  | _ + 1, .yld _ => .any
  | _ + 1, .mp _ => .any
  | _ + 1, a => a
def vw : Nat → Hp → AV → AV
  | 0, _, _ => .any
  | d + 1, H, .own id sz off n => match H id with
    | some (.arr _ sz' _ get) => bif Nat.beq sz sz' then .ro false sz n fun i => (get (off + i)).map (vwIn d) else .any
    | _ => .any
  | d + 1, H, .ptr id off => match H id with
    | some (.box _ cs) => .pv ((cs.drop off).map (vw d H))
    | _ => .any
  | d + 1, H, .agg cs => .agg (cs.map (vw d H))
  | d + 1, H, .tup cs => .tup (cs.map (vw d H))
  | d + 1, H, .fn f a b => .fn f (a.map (vw d H)) (b.map (vw d H))
  | d + 1, _, a => vwIn (d + 1) a
def allP (f : AV → Prop) : List AV → Prop
  | [] => True
  | a :: r => f a ∧ allP f r
theorem allP_get {f : AV → Prop} : ∀ {l : List AV}, allP f l → ∀ (j : Nat) (a : AV), l[j]? = some a → f a
  | [], _, j, a, h => by simp at h
  | x :: l, hp, j, a, h => by
    cases j with
    | zero => simp at h; subst h; exact hp.1
    | succ j => exact allP_get hp.2 j a (by simpa using h)
def vwOk : Nat → Hp → AV → Prop
  | 0, _, _ => True
  | _ + 1, H, .own id _ off n => match H id with
    | some (.arr _ _ m _) => off + n ≤ m
    | _ => True
  | d + 1, H, .ptr id off => match H id with
    | some (.box _ cs) => off ≤ cs.length ∧ allP (vwOk d H) (cs.drop off)
    | _ => True
  | d + 1, H, .agg cs => allP (vwOk d H) cs
  | d + 1, H, .tup cs => allP (vwOk d H) cs
  | d + 1, H, .fn _ a b => allP (vwOk d H) a ∧ allP (vwOk d H) b
  | _ + 1, _, _ => True

theorem map_get {α : Type} {f : α → AV} {l : List α} {j : Nat} {a : AV} (h : (l.map f)[j]? = some a) : ∃ b, l[j]? = some b ∧ a = f b := by
  rw [List.getElem?_map] at h
  cases hj : l[j]? with
  | none => simp [hj] at h
  | some b => simp [hj] at h; exact ⟨b, rfl, h.symm⟩

theorem vwIn_ok {P : Program} {E E' : En} (hw : E'.w = E.w) (hM : ∀ g, ¬ E.M g → ¬ E'.M g) : ∀ (d : Nat) (a : AV) (v : Value), Cv P E a v → Cv P E' (vwIn d a) v := by
  intro d
  induction d with
  | zero => intro a v _; exact .any v
  | succ d ih =>
    intro a v hc
    cases hc with
    | any v => exact .any v
    | ub b => exact .ub b
    | int k n => exact .int k n
    | bool b => exact .bool b
    | str s => exact .str s
    | emp => exact .emp
    | ro val hcc hA hl hv hb =>
      refine .ro val hcc (fun hn => ?_) (fun i hi => by simp [hl i hi]) (fun i j a hi ha => ?_) (fun h => by cases h)
      · obtain ⟨g, o, e, q1, q2, q3⟩ := hA hn
        exact ⟨g, o, e, by rw [hw]; exact q1, hM g q2, by rw [hw]; exact q3⟩
      · obtain ⟨b, hb', rfl⟩ := map_get ha
        exact ih _ _ (hv i j b hi hb')
    | own hD hcc hA hs hm => exact .any _
    | ptr hD => exact .any _
    | ept hD => exact .any _
    | pv val hg hMM hcc hv =>
      refine .pv val (by rw [hw]; exact hg) (hM _ hMM) (fun j hj => by rw [hw]; exact hcc j (by simpa using hj)) (fun j a ha => ?_)
      obtain ⟨b, hb', rfl⟩ := map_get ha
      exact ih _ _ (hv j b hb')
    | nilp => exact .nilp
    | fn h1 h2 h3 h4 =>
      refine .fn (by simp [h1]) (by simp [h2]) (fun j a v ha hv => ?_) (fun j a v ha hv => ?_)
      · obtain ⟨b, hb', rfl⟩ := map_get ha; exact ih _ _ (h3 j b v hb' hv)
      · obtain ⟨b, hb', rfl⟩ := map_get ha; exact ih _ _ (h4 j b v hb' hv)
    | raw v => exact .raw v
    | agg h1 h2 => exact .agg (by simp [h1]) fun j a v ha hv => by obtain ⟨b, hb', rfl⟩ := map_get ha; exact ih _ _ (h2 j b v hb' hv)
    | tup h1 h2 => exact .tup (by simp [h1]) fun j a v ha hv => by obtain ⟨b, hb', rfl⟩ := map_get ha; exact ih _ _ (h2 j b v hb' hv)
    | yld hD => exact .any _
    | mp hD => exact .any _

/-- The callee's view: no names. -/
def En.call (w : World) (M : Nat → Prop) : En := ⟨w, fun _ => 0, M, w.heap.size, fun _ => False⟩

theorem vw_ok {P : Program} {w : World} {β : Nat → Nat} {N : Nat → Prop} {H Hr : Hp} {B : Nat} {D : Nat → Prop} (hh : HpOk P (En.mk' w β N H B D) H) (hN : ∀ g, N g → g < B) (hs : Sub Hr H) :
    ∀ (d : Nat) (a : AV) (v : Value), vwOk d Hr a → Cv P (En.mk' w β N H B D) a v → Cv P (En.call w N) (vw d Hr a) v := by
  have hM : ∀ g, ¬ (En.mk' w β N H B D).M g → ¬ (En.call w N).M g := fun g h hn => h (.inl hn)
  intro d
  induction d with
  | zero => intro a v _ _; exact .any v
  | succ d ih =>
    intro a v ho hc
    have deflt : vw (d + 1) Hr a = vwIn (d + 1) a → Cv P (En.call w N) (vw (d + 1) Hr a) v := fun e => by
      rw [e]; exact vwIn_ok (E := En.mk' w β N H B D) (E' := En.call w N) rfl hM (d + 1) a v hc
    cases a <;> try exact deflt rfl
    case own id sz off n =>
      simp only [vw]
      simp only [vwOk] at ho
      split
      · rename_i e sz' m get hi
        rw [hi] at ho
        cases hb : Nat.beq sz sz' with
        | false => simp only [cond_false]; exact .any v
        | true =>
          obtain rfl := Nat.eq_of_beq_eq_true hb
          simp only [cond_true]
          obtain ⟨_, _, hB, vs, g1, g2, g3, g4, g5⟩ := hh.blk id _ (hs id _ hi)
          simp only [En.mk'_w, En.mk'_β] at g1
          cases hc with
          | own hD hcc hA hss hmm =>
            obtain ⟨o', rfl, hof⟩ := hA
            have ho' : off + n ≤ m := ho
            have hbd : ∀ i j, i < n → j < sz → (off + i) * sz + j < vs.size := fun i j hi hj => by
              have : (off + i + 1) * sz ≤ m * sz := Nat.mul_le_mul_right _ (by omega)
              rw [Nat.succ_mul] at this
              omega
            refine .ro (fun i j => vs.getD ((off + i) * sz + j) undef) hcc (fun hn => ⟨_, _, rfl, lt_of_heap g1, fun hNb => ?_, fun i j hi hj => obj_cell g1 ?_⟩) (fun i hi => by simp; exact g3 _ (by omega)) (fun i j a hi ha => ?_) (fun h => by cases h)
            · have := hN _ hNb
              simp only [En.mk'_B, En.mk'_β] at hB this
              omega
            · rw [hof (.inl (by omega)), show off * sz + i * sz + j = (off + i) * sz + j by rw [Nat.add_mul]]
              exact getD_row (hbd i j hi hj)
            · obtain ⟨b, hb', rfl⟩ := map_get ha
              have hj : j < sz := by have := (List.getElem?_eq_some_iff.1 hb').1; rw [g3 _ (by omega)] at this; exact this
              exact vwIn_ok (E := En.mk' w β N H B D) (E' := En.call w N) rfl hM d _ _ (g4 (off + i) j b _ (by omega) hb' (getD_row (hbd i j hi hj)))
      · exact .any v
    case ptr id off =>
      simp only [vw]
      simp only [vwOk] at ho
      split
      · rename_i t cs hi
        rw [hi] at ho
        obtain ⟨ho1, ho2⟩ := ho
        obtain ⟨_, _, hB, vs, g1, g2, g3⟩ := hh.blk id _ (hs id _ hi)
        simp only [En.mk'_w, En.mk'_β] at g1
        cases hc with
        | ptr hD =>
          refine .pv (fun j => vs.getD (off + j) undef) (lt_of_heap g1) (fun hNb => ?_) (fun j hj => obj_cell g1 (getD_row (by simp at hj; omega))) (fun j a ha => ?_)
          · have := hN _ hNb
            simp only [En.mk'_B, En.mk'_β] at hB this
            omega
          · obtain ⟨b, hb', rfl⟩ := map_get ha
            have hb2 := hb'
            rw [List.getElem?_drop] at hb2
            have hlt := (List.getElem?_eq_some_iff.1 hb2).1
            exact ih b _ (allP_get ho2 j b hb') (g3 _ b _ hb2 (getD_row (by omega)))
      · exact .any v
    case fn f a b =>
      cases hc with
      | fn h1 h2 h3 h4 =>
        simp only [vwOk] at ho
        refine .fn (by simp [h1]) (by simp [h2]) (fun j a v ha hv => ?_) (fun j a v ha hv => ?_)
        · obtain ⟨b, hb', rfl⟩ := map_get ha; exact ih b v (allP_get ho.1 j b hb') (h3 j b v hb' hv)
        · obtain ⟨b, hb', rfl⟩ := map_get ha; exact ih b v (allP_get ho.2 j b hb') (h4 j b v hb' hv)
    case agg cs =>
      cases hc with
      | agg h1 h2 =>
        simp only [vwOk] at ho
        exact .agg (by simp [h1]) fun j a v ha hv => by obtain ⟨b, hb', rfl⟩ := map_get ha; exact ih b v (allP_get ho j b hb') (h2 j b v hb' hv)
    case tup cs =>
      cases hc with
      | tup h1 h2 =>
        simp only [vwOk] at ho
        exact .tup (by simp [h1]) fun j a v ha hv => by obtain ⟨b, hb', rfl⟩ := map_get ha; exact ih b v (allP_get ho j b hb') (h2 j b v hb' hv)

/-! What comes back: rows that are the caller's own from now on get names; what is new stays told; what may be an argument's memory is no more. -/
def adoptL (k : Nat) : List AV → List AV × List Blk
  | [] => ([], [])
  | .fr e sz n get :: r => (.own k sz 0 n :: (adoptL (k + 1) r).1, .arr e sz n get :: (adoptL (k + 1) r).2)
  | a :: r => (a :: (adoptL k r).1, (adoptL k r).2)
def adopt (k : Nat) : AV → AV × List Blk
  | .tup cs => (.tup (adoptL k cs).1, (adoptL k cs).2)
  | .fr e sz n get => (.own k sz 0 n, [.arr e sz n get])
  | a => (a, [])
def En.res (w w' : World) (M : Nat → Prop) (k n : Nat) (γ : Nat → Nat) : En := ⟨w', fun j => γ (j - k), fun g => M g ∨ ∃ j, j < n ∧ γ j = g, w.heap.size, fun j => k ≤ j ∧ j < k + n⟩
def ResOk (P : Program) (w w' : World) (M : Nat → Prop) (k : Nat) (a : AV) (v : Value) : Prop :=
  (adopt k a).2.length ≤ 4 ∧ ∃ γ : Nat → Nat, (∀ j, j < (adopt k a).2.length → w.heap.size ≤ γ j) ∧ (∀ i j, i < (adopt k a).2.length → j < (adopt k a).2.length → γ i = γ j → i = j) ∧
    (∀ j b, (adopt k a).2[j]? = some b → BlkOk P (En.res w w' M k (adopt k a).2.length γ) (γ j) b) ∧ Cv P (En.res w w' M k (adopt k a).2.length γ) (adopt k a).1 v
def callB (P : Program) (f : FuncId) : Bool := match P.funcs[f]? with
  | some fn => !(fn.name == "runtime.NumGoroutine") && fn.body.isSome
  | none => false
/-- THE CONTRACT OF A FUNCTION THAT ONLY READS AND MAKES: at arguments that are so, it returns what is so, and all that was there is as it was. -/
def PureA (P : Program) (f : FuncId) (args : List AV) (a : AV) : Prop :=
  callB P f = true ∧ ∀ (w : World) (M : Nat → Prop) (vs : Array Value), (∀ g, M g → g < w.heap.size) → vs.size = args.length →
    (∀ (j : Nat) (x : AV) (v : Value), args[j]? = some x → (vs[j]? : Option Value) = some v → Cv P (En.call w M) x v) →
    Calls P f vs w fun e w' => ∃ v, e = .returned v ∧ Below w.heap.size w w' ∧ ∀ k, ResOk P w w' M k a v

def lft : Nat → AV → AV
  | 0, _ => .any
  | d + 1, .ro true sz n get => .ro true sz n fun i => (get i).map (lft d)
  | d + 1, .agg cs => .agg (cs.map (lft d))
  | d + 1, .tup cs => .tup (cs.map (lft d))
  | d + 1, .fn f a b => .fn f (a.map (lft d)) (b.map (lft d))
  | _ + 1, .ro false _ _ _ => .any
  | _ + 1, .pv _ => .any
  | _ + 1, a => a
def lftB (d : Nat) : Blk → Blk
  | .arr e sz n get => .arr e sz n fun i => (get i).map (lft d)
  | .box t cs => .box t (cs.map (lft d))
  | b => b
def isArr : Blk → Bool
  | .arr .. => true
  | _ => false
theorem adoptL_arr : ∀ (cs : List AV) (k : Nat), ∀ b ∈ (adoptL k cs).2, isArr b = true
  | [], _, b, h => by simp [adoptL] at h
  | a :: cs, k, b, h => by
    cases a <;> simp only [adoptL] at h <;> first | exact adoptL_arr cs _ b h | skip
    rcases List.mem_cons.1 h with rfl | h
    · rfl
    · exact adoptL_arr cs _ b h
theorem adopt_arr (a : AV) (k : Nat) : ∀ b ∈ (adopt k a).2, isArr b = true := by
  intro b h
  cases a <;> simp only [adopt] at h <;> first | (simp at h; done) | exact adoptL_arr _ _ b h | skip
  simp at h
  subst h
  rfl

theorem lft_ok {P : Program} {w w' : World} {M : Nat → Prop} {k n : Nat} {γ : Nat → Nat} {E' : En} (hw : E'.w = w') (hβ : ∀ j, k ≤ j → j < k + n → E'.β j = γ (j - k)) (hD : ∀ j, k ≤ j → j < k + n → E'.D j) (hB : E'.B ≤ w.heap.size)
    (hM : ∀ g, w.heap.size ≤ g → ¬ (∃ j, j < n ∧ γ j = g) → ¬ E'.M g) : ∀ (d : Nat) (a : AV) (v : Value), Cv P (En.res w w' M k n γ) a v → Cv P E' (lft d a) v := by
  intro d
  induction d with
  | zero => intro a v _; exact .any v
  | succ d ih =>
    intro a v hc
    cases hc with
    | any v => exact .any v
    | ub b => exact .ub b
    | int k n => exact .int k n
    | bool b => exact .bool b
    | str s => exact .str s
    | emp => exact .emp
    | @ro born sz n' get A c val hcc hA hl hv hb =>
      cases born with
      | false => exact .any _
      | true =>
        have hbn := hb rfl
        refine .ro val hcc (fun hn => ?_) (fun i hi => by simp [hl i hi]) (fun i j a hi ha => ?_) (fun _ => ?_)
        · obtain ⟨g, o, rfl, q1, q2, q3⟩ := hA hn
          rcases hbn with hbn | ⟨g', o', cs, t, e, r1, r2, r3, r4, r5⟩
          · omega
          · cases e
            exact ⟨g, o, rfl, by rw [hw]; exact q1, hM g r1 (fun h => q2 (.inr h)), by rw [hw]; exact q3⟩
        · obtain ⟨b, hb', rfl⟩ := map_get ha
          exact ih _ _ (hv i j b hi hb')
        · rcases hbn with hbn | ⟨g', o', cs, t, e, r1, r2, r3, r4, r5⟩
          · exact .inl hbn
          · exact .inr ⟨g', o', cs, t, e, Nat.le_trans hB r1, hM g' r1 (fun h => r2 (.inr h)), by rw [hw]; exact r3, r4, r5⟩
    | own hDD hcc hA hs hm =>
      have hDD' : k ≤ _ ∧ _ < k + n := hDD
      have e1 := hβ _ hDD'.1 hDD'.2
      refine .own (hD _ hDD'.1 hDD'.2) hcc ?_ ?_ hm
      · rw [e1]; exact hA
      · rw [e1, hw]; exact hs
    | @ptr id off hDD =>
      have hDD' : k ≤ id ∧ id < k + n := hDD
      show Cv P E' (.ptr id off) (.pointer (some ⟨γ (id - k), off, none⟩))
      rw [← hβ _ hDD'.1 hDD'.2]
      exact .ptr (hD _ hDD'.1 hDD'.2)
    | @ept id sz i off hDD =>
      have hDD' : k ≤ id ∧ id < k + n := hDD
      show Cv P E' (.ept id sz i off) (.pointer (some ⟨γ (id - k), i * sz + off, none⟩))
      rw [← hβ _ hDD'.1 hDD'.2]
      exact .ept (hD _ hDD'.1 hDD'.2)
    | pv val hg hMM hcc hv => exact .any _
    | nilp => exact .nilp
    | fn h1 h2 h3 h4 =>
      refine .fn (by simp [h1]) (by simp [h2]) (fun j a v ha hv => ?_) (fun j a v ha hv => ?_)
      · obtain ⟨b, hb', rfl⟩ := map_get ha; exact ih _ _ (h3 j b v hb' hv)
      · obtain ⟨b, hb', rfl⟩ := map_get ha; exact ih _ _ (h4 j b v hb' hv)
    | raw v => exact .raw v
    | agg h1 h2 => exact .agg (by simp [h1]) fun j a v ha hv => by obtain ⟨b, hb', rfl⟩ := map_get ha; exact ih _ _ (h2 j b v hb' hv)
    | tup h1 h2 => exact .tup (by simp [h1]) fun j a v ha hv => by obtain ⟨b, hb', rfl⟩ := map_get ha; exact ih _ _ (h2 j b v hb' hv)
    | @yld id hDD =>
      have hDD' : k ≤ id ∧ id < k + n := hDD
      show Cv P E' (.yld id) (.func (.yield (γ (id - k))) #[] #[])
      rw [← hβ _ hDD'.1 hDD'.2]
      exact .yld (hD _ hDD'.1 hDD'.2)
    | @mp id hDD =>
      have hDD' : k ≤ id ∧ id < k + n := hDD
      show Cv P E' (.mp id) (.map (some (γ (id - k))))
      rw [← hβ _ hDD'.1 hDD'.2]
      exact .mp (hD _ hDD'.1 hDD'.2)

theorem lftB_ok {P : Program} {w w' : World} {M : Nat → Prop} {k n : Nat} {γ : Nat → Nat} {E' : En} (hw : E'.w = w') (hβ : ∀ j, k ≤ j → j < k + n → E'.β j = γ (j - k)) (hD : ∀ j, k ≤ j → j < k + n → E'.D j) (hB : E'.B ≤ w.heap.size)
    (hM : ∀ g, w.heap.size ≤ g → ¬ (∃ j, j < n ∧ γ j = g) → ¬ E'.M g) (d g : Nat) (b : Blk) (harr : isArr b = true) (h : BlkOk P (En.res w w' M k n γ) g b) : BlkOk P E' g (lftB d b) := by
  cases b <;> simp only [isArr, Bool.false_eq_true] at harr
  case arr e sz n get =>
    obtain ⟨vs, h1, h2, h3, h4, h5⟩ := h
    exact ⟨vs, by rw [hw]; exact h1, h2, fun i hi => by simp [h3 i hi], fun i j a v hi ha hv => by obtain ⟨b, hb', rfl⟩ := map_get ha; exact lft_ok hw hβ hD hB hM d _ _ (h4 i j b v hi hb' hv), h5⟩

theorem addB_nil (H : Hp) (id : Nat) : addB H id [] = H := by
  funext j
  exact addB_out H (by simp)

def callVC (P : Program) (Hr : Hp) (id : Nat) (o : Oper) (τ : Operand → AV) (f : AV) (args : List AV) (K : AV → Eff → Prop) : Prop :=
  match f with
  | .fn (.func g) first cap => (allP (vwOk 6 Hr) (first ++ (args ++ cap)) ∧ ∃ a, PureA P g ((first ++ (args ++ cap)).map (vw 6 Hr)) a ∧
      K (lft 6 (adopt id a).1) (match (adopt id a).2 with | [] => .none | bs => .new (bs.map (lftB 6)))) ∨ ∃ a H', OpRun P o τ Hr id a H' ∧ K a (.set H')
  | _ => False

theorem call_exec {P : Program} {o : Oper} {ρ : Operand → Value} {f : Operand} {args : Array Operand} {ts : Array TypeId} {g : FuncId} {vs us : Array Value} (ho : o.op = .call ⟨.value f, args, ts⟩) (hf : ρ f = .func (.func g) vs us) (hc : callB P g = true) (w : World) :
    (execOp ρ o).run P w = .ok (.enter g (vs ++ args.map ρ ++ us)) w := by
  unfold callB at hc
  split at hc
  · rename_i fn hfn
    simp only [Bool.and_eq_true, Bool.not_eq_true'] at hc
    obtain ⟨c1, c2⟩ := hc
    have c3 : fn.body.isNone = false := by cases hb : fn.body <;> simp_all
    simp [execOp, ho, resolve, Deferred.ofValue, hf, invoke, callFunc, hfn, c1, c3, Result.andThen]
    rw [if_neg (by simpa using c1), if_neg (by intro e; rw [e] at c2; cases c2)]
  · cases hc

theorem callVC_ok {P : Program} {Hr : Hp} {id : Nat} {o : Oper} {τ : Operand → AV} {f : Operand} {args : Array Operand} {ts : Array TypeId} {K : AV → Eff → Prop} (ho : o.op = .call ⟨.value f, args, ts⟩)
    (h : callVC P Hr id o τ (τ f) (args.toList.map τ) K) :
    ∃ a eff, K a eff ∧ (eff.grows = true → ∀ H, Sub Hr H → OpRun P o τ H id a (eff.app H id)) ∧ OpRun P o τ Hr id a (eff.app Hr id) := by
  unfold callVC at h
  generalize hF : τ f = F at h
  split at h
  · rename_i g first cap
    rcases h with ⟨hok, a, hpure, hK⟩ | ⟨a, H', hrun, hK⟩
    · have gen : ∀ H, Sub Hr H → OpRun P o τ H id (lft 6 (adopt id a).1) (addB H id ((adopt id a).2.map (lftB 6))) := by
        intro H hs N B D β w ρ h1 h2 h3 h4 h5
        rw [ho] at h5
        have cf := h5 f (by simp [Op.operands, Call.operands])
        rw [hF] at cf
        generalize hρf : ρ f = R at cf
        cases cf with
        | @fn _ _ _ vs us q1 q2 q3 q4 =>
          have hex := call_exec (P := P) (ρ := ρ) ho hρf hpure.1 w
          unfold OpRes
          rw [hex]
          show Calls P g _ w _
          refine (hpure.2 w N _ (fun g hg => Nat.lt_of_lt_of_le (h4 g hg) h3) (by simp [q1, q2]) (fun j x v hx hv => ?_)).mono ?_
          · obtain ⟨y, hy, rfl⟩ := map_get hx
            refine vw_ok h1 h4 hs 6 y v (allP_get hok j y hy) ?_
            rw [Array.getElem?_append] at hv
            simp only [Array.size_append, Array.size_map] at hv
            by_cases hj1 : j < vs.size + args.size
            · rw [if_pos hj1, Array.getElem?_append] at hv
              by_cases hj2 : j < vs.size
              · rw [if_pos hj2] at hv
                rw [List.getElem?_append_left (by omega)] at hy
                exact q3 j y v hy hv
              · rw [if_neg hj2] at hv
                rw [List.getElem?_append_right (by omega), List.getElem?_append_left (by simp; omega)] at hy
                obtain ⟨z, hz, rfl⟩ := map_get hy
                simp only [Array.getElem?_toList] at hz
                rw [q1] at hv
                simp only [Array.getElem?_map, hz, Option.map_some, Option.some.injEq] at hv
                subst hv
                exact h5 z (by simp [Op.operands, Call.operands, Array.mem_of_getElem? hz])
            · rw [if_neg hj1] at hv
              rw [List.getElem?_append_right (by omega), List.getElem?_append_right (by simp; omega)] at hy
              refine q4 _ y v hy ?_
              rw [← hv]
              congr 1
              simp
              omega
          · rintro e w' ⟨v, rfl, hbel, hres⟩
            obtain ⟨hl, γ, g1, g2, g3, g4⟩ := hres id
            refine ⟨v, rfl, Post.news (γ := γ) (by simpa using hl) h2 h1 h3 (by simpa using g1) (by simpa using g2) (fun k hk => hbel.block k hk) hbel.size ⟨hbel.os, hbel.tape, hbel.output⟩ (fun j b hb => ?_) ?_⟩
            all_goals
              have hb1 : ∀ j, id ≤ j → j < id + (adopt id a).2.length → (En.mk' w' (addβ β id ((adopt id a).2.map (lftB 6)).length γ) N (addB H id ((adopt id a).2.map (lftB 6))) B (Dn D id)).β j = γ (j - id) := fun j p1 p2 => by
                simp only [En.mk'_β, addβ, List.length_map]; rw [if_pos ⟨p1, p2⟩]
              have hb2 : ∀ j, id ≤ j → j < id + (adopt id a).2.length → (En.mk' w' (addβ β id ((adopt id a).2.map (lftB 6)).length γ) N (addB H id ((adopt id a).2.map (lftB 6))) B (Dn D id)).D j := fun j p1 p2 => .inr ⟨p1, by omega⟩
              have hb3 : ∀ g, w.heap.size ≤ g → ¬ (∃ j, j < (adopt id a).2.length ∧ γ j = g) → ¬ (En.mk' w' (addβ β id ((adopt id a).2.map (lftB 6)).length γ) N (addB H id ((adopt id a).2.map (lftB 6))) B (Dn D id)).M g := by
                rintro g p1 p2 (p3 | ⟨i, c, p3, p4⟩)
                · have := h4 g p3; omega
                · by_cases hii : id ≤ i ∧ i < id + ((adopt id a).2.map (lftB 6)).length
                  · rw [addβ, if_pos hii] at p4
                    exact p2 ⟨i - id, by have := hii.2; simp at this; omega, p4⟩
                  · rw [addB_out _ hii] at p3
                    rw [addβ, if_neg hii] at p4
                    have := h1.lt p3
                    simp only [En.mk'_β, En.mk'_w] at this
                    omega
            · rw [List.getElem?_map] at hb
              cases hj : (adopt id a).2[j]? with
              | none => simp [hj] at hb
              | some c =>
                simp only [hj, Option.map_some, Option.some.injEq] at hb
                subst hb
                exact lftB_ok rfl hb1 hb2 h3 hb3 6 _ c (adopt_arr a id c (List.mem_of_getElem? hj)) (g3 j c hj)
            · exact lft_ok rfl hb1 hb2 h3 hb3 6 _ _ g4
      refine ⟨_, _, hK, fun _ H hs => ?_, ?_⟩
      · have := gen H hs
        split
        · rename_i e; rw [e] at this; simpa [Eff.app, addB_nil] using this
        · simpa [Eff.app] using this
      · have := gen Hr (Sub.refl _)
        split
        · rename_i e; rw [e] at this; simpa [Eff.app, addB_nil] using this
        · simpa [Eff.app] using this
    · exact ⟨a, _, hK, fun hg => by simp [Eff.grows] at hg, hrun⟩
  · exact h.elim
end Go.E
