/-
  What calls at plain data answer, each by one run of the abstract evaluation.
-/
import Derived.Test.YtmgkohengjnpkaaGreatDoorEd
namespace Go.Proofs.YtmgkohengjnpkaaGreatDoor
open Go.E

noncomputable abbrev Pr : Program := Tryz.prog
def xt : ExTab := [(169, Extern.BytealgCount.count), (188, Extern.BytealgIndexByte.indexByte), (178, Extern.BytealgIndex.index)]
def exS : ExE := orE (cmpE 125) (exTabE xt)
theorem hmx : Pr.follows .mixedOrders = true := by kernel_rfl
theorem xt_ok : ∀ x ∈ xt, exFact Pr x.1 x.2 := fun x hx => by
  simp only [xt, List.mem_cons, List.not_mem_nil, or_false] at hx
  rcases hx with rfl | rfl | rfl
  · exact ⟨Tryz.f169, Tryz.func169, by decide +kernel, rfl, by kernel_rfl, by kernel_rfl⟩
  · exact ⟨Tryz.f188, Tryz.func188, by decide +kernel, rfl, by kernel_rfl, by kernel_rfl⟩
  · exact ⟨Tryz.f178, Tryz.func178, by decide +kernel, rfl, by kernel_rfl, by kernel_rfl⟩
theorem exS_ok : ExOk Pr exS := orE_ok (cmpE_ok ⟨Tryz.f125, Tryz.func125, by decide +kernel, rfl, by kernel_rfl, by kernel_rfl⟩) (exTab_ok xt_ok)
theorem del_ok : DelOk Pr 68 9 3 := fun pd g cb b n es0 w eg hown hdel => delWalk (plainElem Pr 3) pd g cb b n es0 w eg hown hdel
noncomputable def cdT (t : Tab) : CallD := fnT Pr exS (ptCd (tabPt t)) 1000 100
noncomputable def cdO (t : Tab) : CallD := fnT Pr exS (frontD (delC Pr (runP Pr (cdT t)) 68 9 3) (ptCd (tabPt t))) 1000 100
theorem cdT_ok {t : Tab} (h : ∀ x ∈ t, TabRun Pr x) : CdOk Pr (cdT t) := fnT_ok exS_ok (ptCd_ok (tab_ok h)) 1000 hmx 100
theorem cdO_ok {t : Tab} (h : ∀ x ∈ t, TabRun Pr x) : CdOk Pr (cdO t) :=
  fnT_ok exS_ok (frontD_ok (delC_ok (fun g aa a hg => runP_ok (cdT_ok h) hg) del_ok (by kernel_rfl) Tryz.underlying9 Tryz.underlying3) (ptCd_ok (tab_ok h))) 1000 hmx 100
def T0 : Tab := []
theorem T0_ok : ∀ x ∈ T0, TabRun Pr x := tab_nil
theorem e1_0 : TabRun Pr (93, [.str [97]], .bool true) := tab_run (cdT_ok T0_ok) (by kernel_rfl)
theorem e1_1 : TabRun Pr (93, [.str [98]], .bool true) := tab_run (cdT_ok T0_ok) (by kernel_rfl)
def T1 : Tab := (93, [.str [97]], .bool true) :: (93, [.str [98]], .bool true) :: T0
theorem T1_ok : ∀ x ∈ T1, TabRun Pr x := tab_cons e1_0 (tab_cons e1_1 (T0_ok))
theorem e2_0 : TabRun Pr (70, [.nil, .str [97]], .tup [.int .i64 (-1), .bool false]) := tab_run (cdT_ok T1_ok) (by kernel_rfl)
theorem e2_1 : TabRun Pr (61, [.str [97]], .int .i64 0) := tab_run (cdT_ok T1_ok) (by kernel_rfl)
theorem e2_2 : TabRun Pr (62, [.agg [.int .i64 2, .int .i64 0, .nil]], .int .i64 0) := tab_run (cdT_ok T1_ok) (by kernel_rfl)
theorem e2_3 : TabRun Pr (70, [.row 4 [[.str [97], .int .i64 2, .int .i64 0, .nil]], .str [97]], .tup [.int .i64 0, .bool true]) := tab_run (cdT_ok T1_ok) (by kernel_rfl)
theorem e2_4 : TabRun Pr (70, [.row 4 [[.str [97], .int .i64 2, .int .i64 0, .nil]], .str [97,47,98]], .tup [.int .i64 (-1), .bool false]) := tab_run (cdT_ok T1_ok) (by kernel_rfl)
theorem e2_5 : TabRun Pr (61, [.str [97,47,98]], .int .i64 0) := tab_run (cdT_ok T1_ok) (by kernel_rfl)
theorem e2_6 : TabRun Pr (62, [.agg [.int .i64 1, .int .i64 0, .row 1 [[.int .u8 7]]]], .int .i64 0) := tab_run (cdT_ok T1_ok) (by kernel_rfl)
theorem e2_7 : TabRun Pr (70, [.row 4 [[.str [97], .int .i64 2, .int .i64 0, .nil], [.str [97,47,98], .int .i64 1, .int .i64 0, .row 1 [[.int .u8 7]]]], .str [97]], .tup [.int .i64 0, .bool true]) := tab_run (cdT_ok T1_ok) (by kernel_rfl)
theorem e2_8 : TabRun Pr (70, [.row 4 [[.str [97], .int .i64 2, .int .i64 0, .nil], [.str [97,47,98], .int .i64 1, .int .i64 0, .row 1 [[.int .u8 7]]]], .str [97,47,98]], .tup [.int .i64 1, .bool true]) := tab_run (cdT_ok T1_ok) (by kernel_rfl)
theorem e2_9 : TabRun Pr (70, [.row 4 [[.str [97], .int .i64 2, .int .i64 0, .nil], [.str [97,47,98], .int .i64 1, .int .i64 0, .row 1 [[.int .u8 7]]]], .str []], .tup [.int .i64 (-1), .bool false]) := tab_run (cdT_ok T1_ok) (by kernel_rfl)
theorem e2_10 : TabRun Pr (24, [.agg [.int .i64 1, .int .i64 0, .row 1 [[.int .u8 7]]], .agg [.int .i64 3, .int .i64 0, .nil]], .bool false) := tab_run (cdT_ok T1_ok) (by kernel_rfl)
theorem e2_11 : TabRun Pr (24, [.agg [.int .i64 2, .int .i64 0, .nil], .agg [.int .i64 3, .int .i64 0, .nil]], .bool false) := tab_run (cdT_ok T1_ok) (by kernel_rfl)
theorem e2_12 : TabRun Pr (60, [.agg [.int .i64 3, .int .i64 1]], .int .i64 0) := tab_run (cdT_ok T1_ok) (by kernel_rfl)
theorem e2_13 : TabRun Pr (80, [.nil], .int .i64 0) := tab_run (cdT_ok T1_ok) (by kernel_rfl)
theorem e2_14 : TabRun Pr (80, [.row 3 [[.int .i64 3, .int .i64 1, .int .i64 1]]], .int .i64 0) := tab_run (cdT_ok T1_ok) (by kernel_rfl)
theorem e2_15 : TabRun Pr (60, [.agg [.int .i64 3, .int .i64 2]], .int .i64 0) := tab_run (cdT_ok T1_ok) (by kernel_rfl)
theorem e2_16 : TabRun Pr (80, [.row 3 [[.int .i64 3, .int .i64 2, .int .i64 2]]], .int .i64 0) := tab_run (cdT_ok T1_ok) (by kernel_rfl)
theorem e2_17 : TabRun Pr (80, [.row 3 [[.int .i64 3, .int .i64 1, .int .i64 2]]], .int .i64 0) := tab_run (cdT_ok T1_ok) (by kernel_rfl)
theorem e2_18 : TabRun Pr (70, [.row 4 [], .str [97]], .tup [.int .i64 (-1), .bool false]) := tab_run (cdT_ok T1_ok) (by kernel_rfl)
theorem e2_19 : TabRun Pr (70, [.row 4 [], .str [97,47,98]], .tup [.int .i64 (-1), .bool false]) := tab_run (cdT_ok T1_ok) (by kernel_rfl)
theorem e2_20 : TabRun Pr (70, [.nil, .str [97,47,98]], .tup [.int .i64 (-1), .bool false]) := tab_run (cdT_ok T1_ok) (by kernel_rfl)
theorem e2_21 : TabRun Pr (24, [.agg [.int .i64 3, .int .i64 0, .nil], .agg [.int .i64 1, .int .i64 0, .row 1 [[.int .u8 7]]]], .bool false) := tab_run (cdT_ok T1_ok) (by kernel_rfl)
theorem e2_22 : TabRun Pr (24, [.agg [.int .i64 3, .int .i64 0, .nil], .agg [.int .i64 2, .int .i64 0, .nil]], .bool false) := tab_run (cdT_ok T1_ok) (by kernel_rfl)
def T2 : Tab := (70, [.nil, .str [97]], .tup [.int .i64 (-1), .bool false]) :: (61, [.str [97]], .int .i64 0) :: (62, [.agg [.int .i64 2, .int .i64 0, .nil]], .int .i64 0) :: (70, [.row 4 [[.str [97], .int .i64 2, .int .i64 0, .nil]], .str [97]], .tup [.int .i64 0, .bool true]) :: (70, [.row 4 [[.str [97], .int .i64 2, .int .i64 0, .nil]], .str [97,47,98]], .tup [.int .i64 (-1), .bool false]) :: (61, [.str [97,47,98]], .int .i64 0) :: (62, [.agg [.int .i64 1, .int .i64 0, .row 1 [[.int .u8 7]]]], .int .i64 0) :: (70, [.row 4 [[.str [97], .int .i64 2, .int .i64 0, .nil], [.str [97,47,98], .int .i64 1, .int .i64 0, .row 1 [[.int .u8 7]]]], .str [97]], .tup [.int .i64 0, .bool true]) :: (70, [.row 4 [[.str [97], .int .i64 2, .int .i64 0, .nil], [.str [97,47,98], .int .i64 1, .int .i64 0, .row 1 [[.int .u8 7]]]], .str [97,47,98]], .tup [.int .i64 1, .bool true]) :: (70, [.row 4 [[.str [97], .int .i64 2, .int .i64 0, .nil], [.str [97,47,98], .int .i64 1, .int .i64 0, .row 1 [[.int .u8 7]]]], .str []], .tup [.int .i64 (-1), .bool false]) :: (24, [.agg [.int .i64 1, .int .i64 0, .row 1 [[.int .u8 7]]], .agg [.int .i64 3, .int .i64 0, .nil]], .bool false) :: (24, [.agg [.int .i64 2, .int .i64 0, .nil], .agg [.int .i64 3, .int .i64 0, .nil]], .bool false) :: (60, [.agg [.int .i64 3, .int .i64 1]], .int .i64 0) :: (80, [.nil], .int .i64 0) :: (80, [.row 3 [[.int .i64 3, .int .i64 1, .int .i64 1]]], .int .i64 0) :: (60, [.agg [.int .i64 3, .int .i64 2]], .int .i64 0) :: (80, [.row 3 [[.int .i64 3, .int .i64 2, .int .i64 2]]], .int .i64 0) :: (80, [.row 3 [[.int .i64 3, .int .i64 1, .int .i64 2]]], .int .i64 0) :: (70, [.row 4 [], .str [97]], .tup [.int .i64 (-1), .bool false]) :: (70, [.row 4 [], .str [97,47,98]], .tup [.int .i64 (-1), .bool false]) :: (70, [.nil, .str [97,47,98]], .tup [.int .i64 (-1), .bool false]) :: (24, [.agg [.int .i64 3, .int .i64 0, .nil], .agg [.int .i64 1, .int .i64 0, .row 1 [[.int .u8 7]]]], .bool false) :: (24, [.agg [.int .i64 3, .int .i64 0, .nil], .agg [.int .i64 2, .int .i64 0, .nil]], .bool false) :: T1
theorem T2_ok : ∀ x ∈ T2, TabRun Pr x := tab_cons e2_0 (tab_cons e2_1 (tab_cons e2_2 (tab_cons e2_3 (tab_cons e2_4 (tab_cons e2_5 (tab_cons e2_6 (tab_cons e2_7 (tab_cons e2_8 (tab_cons e2_9 (tab_cons e2_10 (tab_cons e2_11 (tab_cons e2_12 (tab_cons e2_13 (tab_cons e2_14 (tab_cons e2_15 (tab_cons e2_16 (tab_cons e2_17 (tab_cons e2_18 (tab_cons e2_19 (tab_cons e2_20 (tab_cons e2_21 (tab_cons e2_22 (T1_ok)))))))))))))))))))))))
theorem e3_0 : TabRun Pr (111, [.str [97]], .tup [.str ⟨⟨[]⟩⟩, .bool false]) := tab_run (cdT_ok T2_ok) (by kernel_rfl)
theorem e3_1 : TabRun Pr (111, [.str [97,47,98]], .tup [.str ⟨⟨[97]⟩⟩, .bool true]) := tab_run (cdT_ok T2_ok) (by kernel_rfl)
theorem e3_2 : TabRun Pr (74, [.str [97,47,98], .str [97]], .bool false) := tab_run (cdT_ok T2_ok) (by kernel_rfl)
theorem e3_3 : TabRun Pr (51, [.str [97], .str [97,47,98]], .int .i64 (-1)) := tab_run (cdT_ok T2_ok) (by kernel_rfl)
theorem e3_4 : TabRun Pr (51, [.str [97,47,98], .str [97]], .int .i64 1) := tab_run (cdT_ok T2_ok) (by kernel_rfl)
theorem e3_5 : TabRun Pr (133, [.nil, .int .i64 3], .int .i64 0) := tab_run (cdT_ok T2_ok) (by kernel_rfl)
theorem e3_6 : TabRun Pr (43, [.agg [.str [97], .int .i64 2, .int .i64 0, .nil, .row 3 [[.int .i64 3, .int .i64 1, .int .i64 1]]]], .bool true) := tab_run (cdT_ok T2_ok) (by kernel_rfl)
theorem e3_7 : TabRun Pr (74, [.str [97], .str [97,47,98]], .bool true) := tab_run (cdT_ok T2_ok) (by kernel_rfl)
theorem e3_8 : TabRun Pr (133, [.row 3 [[.int .i64 3, .int .i64 1, .int .i64 1]], .int .i64 3], .int .i64 1) := tab_run (cdT_ok T2_ok) (by kernel_rfl)
theorem e3_9 : TabRun Pr (43, [.agg [.str [97,47,98], .int .i64 1, .int .i64 0, .row 1 [[.int .u8 7]], .row 3 [[.int .i64 3, .int .i64 1, .int .i64 2]]]], .bool true) := tab_run (cdT_ok T2_ok) (by kernel_rfl)
theorem e3_10 : TabRun Pr (43, [.agg [.str [97,47,98], .int .i64 1, .int .i64 0, .row 1 [[.int .u8 7]], .row 3 [[.int .i64 3, .int .i64 1, .int .i64 1]]]], .bool true) := tab_run (cdT_ok T2_ok) (by kernel_rfl)
def T3 : Tab := (111, [.str [97]], .tup [.str ⟨⟨[]⟩⟩, .bool false]) :: (111, [.str [97,47,98]], .tup [.str ⟨⟨[97]⟩⟩, .bool true]) :: (74, [.str [97,47,98], .str [97]], .bool false) :: (51, [.str [97], .str [97,47,98]], .int .i64 (-1)) :: (51, [.str [97,47,98], .str [97]], .int .i64 1) :: (133, [.nil, .int .i64 3], .int .i64 0) :: (43, [.agg [.str [97], .int .i64 2, .int .i64 0, .nil, .row 3 [[.int .i64 3, .int .i64 1, .int .i64 1]]]], .bool true) :: (74, [.str [97], .str [97,47,98]], .bool true) :: (133, [.row 3 [[.int .i64 3, .int .i64 1, .int .i64 1]], .int .i64 3], .int .i64 1) :: (43, [.agg [.str [97,47,98], .int .i64 1, .int .i64 0, .row 1 [[.int .u8 7]], .row 3 [[.int .i64 3, .int .i64 1, .int .i64 2]]]], .bool true) :: (43, [.agg [.str [97,47,98], .int .i64 1, .int .i64 0, .row 1 [[.int .u8 7]], .row 3 [[.int .i64 3, .int .i64 1, .int .i64 1]]]], .bool true) :: T2
theorem T3_ok : ∀ x ∈ T3, TabRun Pr x := tab_cons e3_0 (tab_cons e3_1 (tab_cons e3_2 (tab_cons e3_3 (tab_cons e3_4 (tab_cons e3_5 (tab_cons e3_6 (tab_cons e3_7 (tab_cons e3_8 (tab_cons e3_9 (tab_cons e3_10 (T2_ok)))))))))))
theorem e4_0 : TabRun Pr (81, [.nil, .str [97]], .int .i64 0) := tab_run (cdT_ok T3_ok) (by kernel_rfl)
theorem e4_1 : TabRun Pr (81, [.row 4 [[.str [97], .int .i64 2, .int .i64 0, .nil]], .str [97]], .int .i64 0) := tab_run (cdT_ok T3_ok) (by kernel_rfl)
theorem e4_2 : TabRun Pr (81, [.row 4 [[.str [97], .int .i64 2, .int .i64 0, .nil]], .str [97,47,98]], .int .i64 0) := tab_run (cdT_ok T3_ok) (by kernel_rfl)
theorem e4_3 : TabRun Pr (44, [.str [97], .str [97,47,98]], .bool true) := tab_run (cdT_ok T3_ok) (by kernel_rfl)
theorem e4_4 : TabRun Pr (65, [.agg [.int .i64 3, .int .i64 1, .str [97], .int .i64 2, .int .i64 0, .nil, .nil]], .int .i64 0) := tab_run (cdT_ok T3_ok) (by kernel_rfl)
theorem e4_5 : TabRun Pr (95, [.str [97], .str [97,47,98]], .bool true) := tab_run (cdT_ok T3_ok) (by kernel_rfl)
theorem e4_6 : TabRun Pr (65, [.agg [.int .i64 3, .int .i64 2, .str [97,47,98], .int .i64 1, .int .i64 0, .row 1 [[.int .u8 7]], .row 3 [[.int .i64 3, .int .i64 1, .int .i64 1]]]], .int .i64 0) := tab_run (cdT_ok T3_ok) (by kernel_rfl)
theorem e4_7 : TabRun Pr (81, [.row 4 [[.str [97], .int .i64 2, .int .i64 0, .nil], [.str [97,47,98], .int .i64 1, .int .i64 0, .row 1 [[.int .u8 7]]]], .str [97]], .int .i64 0) := tab_run (cdT_ok T3_ok) (by kernel_rfl)
theorem e4_8 : TabRun Pr (81, [.row 4 [[.str [97], .int .i64 2, .int .i64 0, .nil], [.str [97,47,98], .int .i64 1, .int .i64 0, .row 1 [[.int .u8 7]]]], .str [97,47,98]], .int .i64 0) := tab_run (cdT_ok T3_ok) (by kernel_rfl)
theorem e4_9 : TabRun Pr (65, [.agg [.int .i64 3, .int .i64 1, .str [97,47,98], .int .i64 1, .int .i64 0, .row 1 [[.int .u8 7]], .nil]], .int .i64 0) := tab_run (cdT_ok T3_ok) (by kernel_rfl)
theorem e4_10 : TabRun Pr (81, [.row 4 [[.str [97,47,98], .int .i64 1, .int .i64 0, .row 1 [[.int .u8 7]]]], .str [97,47,98]], .int .i64 6) := tab_run (cdT_ok T3_ok) (by kernel_rfl)
def T4 : Tab := (81, [.nil, .str [97]], .int .i64 0) :: (81, [.row 4 [[.str [97], .int .i64 2, .int .i64 0, .nil]], .str [97]], .int .i64 0) :: (81, [.row 4 [[.str [97], .int .i64 2, .int .i64 0, .nil]], .str [97,47,98]], .int .i64 0) :: (44, [.str [97], .str [97,47,98]], .bool true) :: (65, [.agg [.int .i64 3, .int .i64 1, .str [97], .int .i64 2, .int .i64 0, .nil, .nil]], .int .i64 0) :: (95, [.str [97], .str [97,47,98]], .bool true) :: (65, [.agg [.int .i64 3, .int .i64 2, .str [97,47,98], .int .i64 1, .int .i64 0, .row 1 [[.int .u8 7]], .row 3 [[.int .i64 3, .int .i64 1, .int .i64 1]]]], .int .i64 0) :: (81, [.row 4 [[.str [97], .int .i64 2, .int .i64 0, .nil], [.str [97,47,98], .int .i64 1, .int .i64 0, .row 1 [[.int .u8 7]]]], .str [97]], .int .i64 0) :: (81, [.row 4 [[.str [97], .int .i64 2, .int .i64 0, .nil], [.str [97,47,98], .int .i64 1, .int .i64 0, .row 1 [[.int .u8 7]]]], .str [97,47,98]], .int .i64 0) :: (65, [.agg [.int .i64 3, .int .i64 1, .str [97,47,98], .int .i64 1, .int .i64 0, .row 1 [[.int .u8 7]], .nil]], .int .i64 0) :: (81, [.row 4 [[.str [97,47,98], .int .i64 1, .int .i64 0, .row 1 [[.int .u8 7]]]], .str [97,47,98]], .int .i64 6) :: T3
theorem T4_ok : ∀ x ∈ T4, TabRun Pr x := tab_cons e4_0 (tab_cons e4_1 (tab_cons e4_2 (tab_cons e4_3 (tab_cons e4_4 (tab_cons e4_5 (tab_cons e4_6 (tab_cons e4_7 (tab_cons e4_8 (tab_cons e4_9 (tab_cons e4_10 (T3_ok)))))))))))
theorem e5_0 : TabRun Pr (45, [.nil], .int .i64 0) := tab_run (cdT_ok T4_ok) (by kernel_rfl)
theorem e5_1 : TabRun Pr (45, [.row 4 [[.str [97], .int .i64 2, .int .i64 0, .nil]]], .int .i64 0) := tab_run (cdT_ok T4_ok) (by kernel_rfl)
theorem e5_2 : TabRun Pr (21, [.row 4 [[.str [97], .int .i64 2, .int .i64 0, .nil], [.str [97,47,98], .int .i64 1, .int .i64 0, .row 1 [[.int .u8 7]]]], .str [97]], .agg [.int .i64 2, .int .i64 0, .emp]) := tab_run (cdT_ok T4_ok) (by kernel_rfl)
theorem e5_3 : TabRun Pr (45, [.row 4 [[.str [97], .int .i64 2, .int .i64 0, .nil], [.str [97,47,98], .int .i64 1, .int .i64 0, .row 1 [[.int .u8 7]]]]], .int .i64 0) := tab_run (cdT_ok T4_ok) (by kernel_rfl)
theorem e5_4 : TabRun Pr (21, [.nil, .str [97,47,98]], .agg [.int .i64 3, .int .i64 0, .emp]) := tab_run (cdT_ok T4_ok) (by kernel_rfl)
theorem e5_5 : TabRun Pr (21, [.nil, .str [97]], .agg [.int .i64 3, .int .i64 0, .emp]) := tab_run (cdT_ok T4_ok) (by kernel_rfl)
theorem e5_6 : TabRun Pr (45, [.row 4 [[.str [97,47,98], .int .i64 1, .int .i64 0, .row 1 [[.int .u8 7]]]]], .int .i64 2) := tab_run (cdT_ok T4_ok) (by kernel_rfl)
def T5 : Tab := (45, [.nil], .int .i64 0) :: (45, [.row 4 [[.str [97], .int .i64 2, .int .i64 0, .nil]]], .int .i64 0) :: (21, [.row 4 [[.str [97], .int .i64 2, .int .i64 0, .nil], [.str [97,47,98], .int .i64 1, .int .i64 0, .row 1 [[.int .u8 7]]]], .str [97]], .agg [.int .i64 2, .int .i64 0, .emp]) :: (45, [.row 4 [[.str [97], .int .i64 2, .int .i64 0, .nil], [.str [97,47,98], .int .i64 1, .int .i64 0, .row 1 [[.int .u8 7]]]]], .int .i64 0) :: (21, [.nil, .str [97,47,98]], .agg [.int .i64 3, .int .i64 0, .emp]) :: (21, [.nil, .str [97]], .agg [.int .i64 3, .int .i64 0, .emp]) :: (45, [.row 4 [[.str [97,47,98], .int .i64 1, .int .i64 0, .row 1 [[.int .u8 7]]]]], .int .i64 2) :: T4
theorem T5_ok : ∀ x ∈ T5, TabRun Pr x := tab_cons e5_0 (tab_cons e5_1 (tab_cons e5_2 (tab_cons e5_3 (tab_cons e5_4 (tab_cons e5_5 (tab_cons e5_6 (T4_ok)))))))
theorem e6_0 : TabRun Pr (15, [.nil], .int .i64 0) := tab_run (cdT_ok T5_ok) (by kernel_rfl)
theorem e6_1 : TabRun Pr (15, [.row 5 [[.str [97], .int .i64 2, .int .i64 0, .nil, .row 3 [[.int .i64 3, .int .i64 1, .int .i64 1]]]]], .int .i64 0) := tab_run (cdT_ok T5_ok) (by kernel_rfl)
theorem e6_2 : TabRun Pr (15, [.row 5 [[.str [97], .int .i64 2, .int .i64 0, .nil, .row 3 [[.int .i64 3, .int .i64 1, .int .i64 1]]], [.str [97,47,98], .int .i64 1, .int .i64 0, .row 1 [[.int .u8 7]], .row 3 [[.int .i64 3, .int .i64 1, .int .i64 2]]]]], .int .i64 0) := tab_run (cdT_ok T5_ok) (by kernel_rfl)
theorem e6_3 : TabRun Pr (15, [.row 5 [[.str [97,47,98], .int .i64 1, .int .i64 0, .row 1 [[.int .u8 7]], .row 3 [[.int .i64 3, .int .i64 1, .int .i64 1]]]]], .int .i64 2) := tab_run (cdT_ok T5_ok) (by kernel_rfl)
def T6 : Tab := (15, [.nil], .int .i64 0) :: (15, [.row 5 [[.str [97], .int .i64 2, .int .i64 0, .nil, .row 3 [[.int .i64 3, .int .i64 1, .int .i64 1]]]]], .int .i64 0) :: (15, [.row 5 [[.str [97], .int .i64 2, .int .i64 0, .nil, .row 3 [[.int .i64 3, .int .i64 1, .int .i64 1]]], [.str [97,47,98], .int .i64 1, .int .i64 0, .row 1 [[.int .u8 7]], .row 3 [[.int .i64 3, .int .i64 1, .int .i64 2]]]]], .int .i64 0) :: (15, [.row 5 [[.str [97,47,98], .int .i64 1, .int .i64 0, .row 1 [[.int .u8 7]], .row 3 [[.int .i64 3, .int .i64 1, .int .i64 1]]]]], .int .i64 2) :: T5
theorem T6_ok : ∀ x ∈ T6, TabRun Pr x := tab_cons e6_0 (tab_cons e6_1 (tab_cons e6_2 (tab_cons e6_3 (T5_ok))))
end Go.Proofs.YtmgkohengjnpkaaGreatDoor
