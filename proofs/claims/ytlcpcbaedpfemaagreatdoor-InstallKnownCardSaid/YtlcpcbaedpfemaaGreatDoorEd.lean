/-
  The walk of maps.DeleteFunc over a map from texts to numbers, whatever the order.
-/
import Derived.Test.YtlcpcbaedpfemaaGreatDoorProg
import Derived.Test.YtlcpcbaedpfemaaGreatDoorEg
import Derived.Shelf.SlMaps.DeleteFunc
import Derived.WalkKit
namespace Go.Proofs.YtlcpcbaedpfemaaGreatDoor
open Go.Shelf Go.RowKit Go.Maps
set_option maxHeartbeats 4000000 in
set_option maxRecDepth 100000 in
/-- maps.DeleteFunc over texts and numbers: the predicate is asked of entries alone. -/
theorem delWalk (R : Value → Option (DataW Unit × List MemPlace)) (pd : Lit → DataW Unit → Bool) (g : Nat) (cb : Array Value) (b n : Nat) (es0 : List (Lit × DataW Unit)) (w : World)
    (eg : ∀ args w, (callFunc g args).run Tryz.prog w = .ok (.enter g args) w) (hown : w.ownsMap Tryz.prog 9 R b n (.map es0))
    (hdel : ∀ (W : World) (key val : Value) (kl : Lit) (yd : DataW Unit) (yp : List MemPlace), w.grownBy W (some b) → keyOf Tryz.prog 9 key = some kl → R val = some (yd, yp) → (kl, yd) ∈ es0 →
      Calls Tryz.prog g (#[key, val] ++ cb) W fun e w' => e = .returned (.bool (pd kl yd)) ∧ W.grownBy w' none) :
    Calls Tryz.prog 49 #[.map (some b), .func (.func g) #[] cb] w fun e w' => e = .returned (.tuple #[]) ∧ w'.ownsMap Tryz.prog 9 R b n (Lib.deleteFuncD pd (.map es0)) ∧ w.grownBy w' (some b) := by
  have K : Keyed Tryz.prog 9 := string_keyed Tryz.underlying9
  obtain ⟨es1, he1, hap, hkeys⟩ := hown.entries K
  obtain rfl : es0 = es1 := by injection he1
  have HD : Aside _ := hdel
  clear hdel
  go_enter Tryz.func49, Tryz.ntmps49
  go_wp2_with (first
    | (at_range; refine wpList_range_own _ rfl _ 52 rfl 9 3 K Tryz.underlying52 R b n _ rfl hown ?_; intro w0 hrg0 hg0 hs0)
    | go_in)
  try go_frame
  go_loopw [8] (fun _ wr => ∃ (left : Lit → Bool) (cnt : Nat), (∀ kl, left kl = true → Maps.has (DataW.map es0) kl = true) ∧ wr.ranges Tryz.prog 9 R b w.heap.size n (Fk pd es0 left) left cnt ∧ w.grownBy wr (some b))
    (fun _ wr => wr.rangeLeft b w.heap.size)
  case atStart => exact ⟨_, _, fun _ h => h, by rw [Fk_start hkeys]; exact hrg0, hg0.but _⟩
  case round =>
    obtain ⟨left, cnt, hsub, hrg, hgw⟩ := hrel
    go_wp2_with (first
      | (at_next; refine wpList_next_ranges _ rfl _ rfl 9 K R id id (fun key _ _ => ⟨key, rfl⟩) (fun v _ _ => ⟨v, rfl⟩) b w.heap.size n _ _ _ rfl hrg ?_ ?_)
      | go_in)
    · intro _ hl0
      go_wp2
      go_end0
      exact ⟨rfl, by rw [← Fk_end hl0]; exact hrg.owns, hgw⟩
    · intro x c kl yd yp w1 cnt1 hkey hlx hv hat hrg1 hlt hg1 hs1 hen
      have hgw1 := hgw.andThen hg1 (fun j hj => by cases hj; exact Or.inl (Nat.le_refl _))
      have hmem : (kl, yd) ∈ es0 := by
        obtain ⟨p, hp, hs⟩ := List.any_eq_true.1 (hsub kl hlx)
        have e1 := WideAt.sameKey_eq hs
        have e2 := at_cameK hap (K.key hkey) hlx hat p hp e1
        rw [← e1, ← e2]
        exact hp
      have hc := HD.out w1 x c kl yd yp hgw1 hkey hv hmem
      have hsub2 : ∀ z, (left z && !z.sameKey kl) = true → Maps.has (DataW.map es0) z = true := fun z hz => hsub z (by simp only [Bool.and_eq_true] at hz; exact hz.1)
      have hbl := hrg1.owns.lt
      have hrl := hrg1.lt
      cases hp : pd kl yd <;> rw [hp] at hc
      · go_wp2_with (first
          | (go_at_fn g; refine hc.mono ?_; rintro e w2 ⟨rfl, hg2⟩)
          | go_in)
        have hrg2 := hrg1.kept hg2 (by simp) (by simp)
        go_roundw
        case rel => exact ⟨_, cnt1, hsub2, by rw [← Fk_stays hap (K.key hkey) hlx hp hat]; exact hrg2, hgw1.andThen hg2 (fun j hj => by cases hj)⟩
        case measure => rw [hrg2.left_eq, hrg.left_eq]; exact hlt
      · go_wp2_with (first
          | (go_at_fn g; refine hc.mono ?_; rintro e w2 ⟨rfl, hg2⟩; have hrg2 := hrg1.kept hg2 (by simp) (by simp))
          | (at_delete; refine wpList_delete_ranges _ rfl _ _ 52 9 rfl 3 K Tryz.underlying52 R b w.heap.size n _ _ _ rfl hrg2 _ _ rfl hkey ?_; intro w3 cnt3 hrg3 hle hturn; go_frame)
          | go_in)
        rw [strike_twice] at hrg3
        go_roundw
        case rel => exact ⟨_, cnt3, hsub2, by rw [← Fk_struck hap (K.key hkey) hlx hp hat]; exact hrg3, (hgw1.andThen hg2 (fun j hj => by cases hj)).andThen hturn.grown (fun j hj => by cases hj; exact Or.inr rfl)⟩
        case measure => rw [hrg3.left_eq, hrg.left_eq]; omega
end Go.Proofs.YtlcpcbaedpfemaaGreatDoor
