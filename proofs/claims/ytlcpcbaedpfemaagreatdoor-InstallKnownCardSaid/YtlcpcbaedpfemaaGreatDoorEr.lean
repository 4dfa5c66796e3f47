/-
  The law, run: it answers true in whatever memory; the row; the card.
-/
import Derived.Test.YtlcpcbaedpfemaaGreatDoorEt
import Derived.Test.YtlcpcbaedpfemaaGreatDoorRows
import Derived.Test.YtlcpcbaedpfemaaGreatDoorCards
import Derived.Test.YtlcpcbaedpfemaaGreatDoorTie
import Derived.ProofKit
import Derived.Lay
import Derived.SevenTiedAt
namespace Go.Proofs.YtlcpcbaedpfemaaGreatDoor
open Go.ChangeShapes Go.WideShapes Go.ChangeAt Go.RowKit
open Go.E (TabRun Tab tab_run tab_cons plainB_adopt ofPVs)
theorem eA : TabRun Pr (13, [], .bool true) := tab_run (cdO_ok T8_ok) (by kernel_rfl)
def TA : Tab := (13, [], .bool true) :: T8
theorem TA_ok : ∀ x ∈ TA, TabRun Pr x := tab_cons eA T8_ok
theorem rootRun : TabRun Pr (3, [], .bool true) := tab_run (cdO_ok TA_ok) (by kernel_rfl)
theorem own : ownKnob Tryz.prog.godebug = none := by kernel_rfl
theorem lawTrue (w : World) : Calls Tryz.prog 3 #[] w fun e w' => e = .returned (.bool true) ∧ Below w.heap.size w w' := by
  obtain ⟨hp, _, h⟩ := rootRun
  refine (h w (fun _ => False) #[] (fun _ h => h.elim) rfl (fun j x v hx => by simp [ofPVs] at hx)).mono ?_
  rintro e w' ⟨v, rfl, hbel, hres⟩
  obtain ⟨_, γ, _, _, _, hcv⟩ := hres 0
  rw [plainB_adopt 0 hp] at hcv
  have : v = .bool true := by
    generalize v = q at hcv
    cases hcv
    rfl
  subst this
  exact ⟨rfl, hbel⟩
set_option maxRecDepth 100000 in
theorem lifted (os : Os) (started : os.Started) (H : Type) (enc : TypeId × Value → H) :
    ReturnsInHanded {} Tryz.checked os 3 .any (fun w args => (Rows.installKnownSpec.pre enc Tryz.prog Tryz.f3 [] false w args ∧ laidMetH Tryz.prog Rows.installKnownRow.laid w) ∧ sizedMet enc Tryz.prog Tryz.f3 (OpenSpec.ofChange Rows.installKnownSpec) false w args)
      (Rows.installKnownSpec.post enc Tryz.prog Tryz.f3 false true false false) := by
  refine returnsInHanded_of_change_and (C := Tryz.checked) (X := fun w _ => laidMetH Tryz.prog Rows.installKnownRow.laid w) (fun _ _ _ hh h => h.of_heap hh) own started (by kernel_rfl) Tryz.func3
    (ChangeSpec.witness_shaped (enc := enc) (C := Tryz.checked) (os := os) (X := fun w _ => laidMetH Tryz.prog Rows.installKnownRow.laid w) false (World.laidAll Tryz.prog os Rows.installKnownRow.laid) #[] 8 (World.laidAll_os _ _ _)
      (World.shaped_of_ZipB (by kernel_rfl) (by kernel_rfl)) (by kernel_rfl) (by kernel_rfl) (by kernel_rfl)
      (by rw [MakeChecks.laidMetH_plain _ _ _ (by kernel_rfl)]; exact laidMet_laidAll _ (by kernel_rfl) (by kernel_rfl))) ?_
  intro W base args ds gs before hval0 hW _ _ hL _
  have hW' := hW
  obtain ⟨p, q, hA0, hV, rfl, _, _⟩ := hW
  have hA : DataW.TrodAll enc Tryz.prog W 0 (fun _ => true) true Tryz.f3.params.toList args.toList ds p := hA0
  rw [Tryz.params3] at hA
  obtain ⟨rfl, rfl, rfl⟩ := trodAll_none hA
  obtain ⟨rfl, rfl⟩ := trodVars_none hV
  simp only [List.append_nil] at hW'
  refine (lawTrue W).mono fun e W' ⟨he, hb⟩ => ?_
  subst he
  exact ⟨_, rfl, _, _, _, [], [], [], hW', trodAll_mk1 (shut_bool Tryz.underlying4 _), rfl, rfl, hb.frame _, fun h => by cases h⟩
theorem installKnown_row : Rows.InstallKnownSaid :=
  OpenClaim.holds_of_wide 3 Tryz.f3 rfl rfl rfl rfl rfl rfl rfl ⟨rfl, rfl, rfl, rfl, rfl⟩ rfl rfl rfl rfl rfl (by kernel_rfl) Tryz.func3 (by kernel_rfl)
    (of_decide_eq_true (by kernel_rfl)) (by unfold Func.isWrapper; first | (rw [if_pos (by decide +kernel)]; kernel_rfl) | (rw [if_neg (by decide +kernel)]; exact ⟨rfl, rfl⟩))
    (fun os started H enc _ => lifted os started H enc)
theorem installKnown_card : Rows.InstallKnownCardSaid :=
  Claim7.holds_tied_plain_at .later [] [.data, .pinned] true (true, "676ba3b9d691580dd94fc4ec3f8d9b3364804440c2debbf478fc457158293cce") false installKnown_row (fun _ h => by cases h) (by kernel_rfl) (fun _ h => by cases h) installKnown_row_tie rfl ⟨rfl, rfl⟩ (by kernel_rfl) rfl
    (fun f fn hf hfn => by
      obtain rfl : f = 3 := Option.some.inj ((show Tryz.prog.funcNamed "tributary/tributarylaw24.InstallKnown" = some 3 by kernel_rfl).symm.trans hf) |>.symm
      obtain rfl : fn = Tryz.f3 := (Option.some.inj (Tryz.func3.symm.trans hfn)).symm
      exact ⟨by kernel_rfl, fun j t ht => by
        rw [Tryz.params3] at ht
        simp at ht⟩)
    (by kernel_rfl)
#print axioms installKnown_card
end Go.Proofs.YtlcpcbaedpfemaaGreatDoor
