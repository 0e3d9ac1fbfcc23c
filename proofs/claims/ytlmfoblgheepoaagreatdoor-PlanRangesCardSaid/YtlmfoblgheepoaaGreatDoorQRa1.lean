/- Ra: part 2 of the proof that the law's row holds: the printed walk of the program's functions, the plain law, the row. -/
import Derived.Test.YtlmfoblgheepoaaGreatDoorProg
import Derived.Below
import Derived.Deep.Draws
import Derived.Deep.AppendLies
import Derived.Maps.AppendAt
import Derived.OwnWalk
import Derived.Laws.BytesArg
import Derived.Laws.MakeOwn
import Derived.Laws.OwnMore
import Derived.Deep.OwnRows
import Derived.Tactics
import Derived.Lib.ConvBytes
import Derived.Laws.Slices
import Derived.WalkKit
import Derived.KernelRfl
import Derived.RowKit3
import Derived.Deep.LoopGhost
import Derived.Deep.QuietTactic
import Derived.BigQuiet
import Derived.WideLaws
import Derived.Deep.DeepCutAuto
import Derived.Deep.CutBlock
import Derived.Deep.RegionHeld3
import Derived.Laws.Rows
import Derived.Lib.AppendStr
import Derived.ArgAppend
import Derived.Laws.IdiomCopy
import Derived.OrdersHeld
import Derived.Laws.BitsLemmas
import Derived.RowKit
import Derived.Sort.KeysCollected
import Derived.WalkSpells
import Derived.Test.YtlmfoblgheepoaaGreatDoorQRa0
namespace Go.Proofs.YtlmfoblgheepoaaGreatDoor.Z
theorem zr4 {p : Prop} (h : p := by exact Glb.below HGLB.out (by repeat (first | (with_reducible first | exact HB.out | apply below_alloc | apply pw_below_drewN | apply below_drew1 | refine below_set ?_ GE560.out) | exact HB.out))) : p := h
theorem zr5 {p : Prop} (h : p := by repeat (first | (with_reducible first | exact HB.out | apply below_alloc | apply pw_below_drewN | apply below_drew1 | refine below_set ?_ GE560.out) | exact HB.out)) : p := h
theorem zr6 {p : Prop} (h : p := by (with_reducible repeat (first | refine blk_drewN ?_ _ | refine blk_drew ?_ | refine blk_alloc ?_ _)); exact BK560.out) : p := h
theorem zr9 {p : Prop} (h : p := by repeat (first | exact (Kd.R_reads' HO564.out).2.2 | (with_reducible refine Kd.C_alloc ?_ _) | (with_reducible refine Kd.C_drewN ?_ _) | (with_reducible refine Kd.C_drew ?_))) : p := h
theorem zr10 {p : Prop} (h : p := by exact (Kd.R_reads' HO564.out).2.1) : p := h
theorem zr11 {p : Prop} (h : p := by (with_reducible repeat (first | apply Kd.R_alloc | apply Kd.R_drewN | apply Kd.R_drew)); exact HO564.out) : p := h
theorem zr13 {p : Prop} (h : p := by (with_reducible repeat (first | apply Kd.R_alloc | apply Kd.R_drewN | apply Kd.R_drew)); exact HO_6.out) : p := h
theorem zr14 {p : Prop} (h : p := by rw [hg]; exact (below_size (by repeat (first | (with_reducible first | exact HB.out | apply below_alloc | apply pw_below_drewN | apply below_drew1 | refine below_set ?_ GE560.out) | exact HB.out)))) : p := h
theorem zr15 {p : Prop} (h : p := by rw [hg]; exact Nat.ne_of_lt (blk_lt (g := gb560) (o := .cells #[.int .i64 a1_0, .int .i64 a1_1] 50 (0, 0)) (by (with_reducible repeat (first | refine blk_drewN ?_ _ | refine blk_drew ?_ | refine blk_alloc ?_ _)); exact BK560.out))) : p := h
theorem zr16 {p : Prop} (h : p := by rw [hg]; exact Nat.ne_of_gt (blk_lt (g := gb560) (o := .cells #[.int .i64 a1_0, .int .i64 a1_1] 50 (0, 0)) (by (with_reducible repeat (first | refine blk_drewN ?_ _ | refine blk_drew ?_ | refine blk_alloc ?_ _)); exact BK560.out))) : p := h
theorem zr17 {p : Prop} (h : p := by (with_reducible repeat (first | apply Kd.R_alloc | apply Kd.R_drewN | apply Kd.R_drew)); exact (Kd.R_mono (Kd.R_far (p := ⟨gb573, 1, none⟩) (Kd.R_far (p := ⟨gb573, 0, none⟩) (Kd.R_types HO_6.out BK573.out (by decide)) (fun _ hk => hk.2) (.int .i64 t570)) (fun _ hk => hk.2) (.int .i64 t571)) (fun _ h_ => h_.1))) : p := h
theorem zr18 {p : Prop} (h : p := by repeat (first | (with_reducible first | exact HB.out | apply below_alloc | apply pw_below_drewN | apply below_drew1 | refine below_set ?_ GE560.out | refine below_set ?_ GE573.out) | exact HB.out)) : p := h
theorem zr19 {p : Prop} (h : p := by (with_reducible repeat (first | refine blk_drewN ?_ _ | refine blk_drew ?_ | refine blk_alloc ?_ _)); exact BK573.out) : p := h
theorem zr20 {p : Prop} (h : p := by rw [hg]; exact (below_size (by repeat (first | (with_reducible first | exact HB.out | apply below_alloc | apply pw_below_drewN | apply below_drew1 | refine below_set ?_ GE560.out | refine below_set ?_ GE573.out) | exact HB.out)))) : p := h
theorem zr21 {p : Prop} (h : p := by first | rfl | (simp [errW_none, errW_some] <;> rfl) | (simp [*, errW_none, errW_some] <;> rfl)) : p := h
theorem zr22 {p : Prop} (h : p := by have := HK1.out; first | omega | exact Nat.le_refl _) : p := h
theorem zr23 {p : Prop} (h : p := by (with_reducible repeat (first | apply Kd.R_alloc | apply Kd.R_drewN | apply Kd.R_drew)); exact Kd.R_mono (Kd.R_far (p := ⟨gb577, 1, none⟩) (Kd.R_far (p := ⟨gb577, 0, none⟩) (Kd.R_types HO_6.out BK577.out (by decide)) (fun _ hk => hk.2) (.int .i64 t574)) (fun _ hk => hk.2) (.int .i64 t575)) (fun _ hk => trivial)) : p := h
theorem zr24 {p : Prop} (h : p := by (with_reducible repeat (first | refine blk_drewN ?_ _ | refine blk_drew ?_ | refine blk_alloc ?_ _)); refine blk_far ?_ NB560_577.out _; (with_reducible repeat (first | refine blk_drewN ?_ _ | refine blk_drew ?_ | refine blk_alloc ?_ _)); refine blk_far ?_ NB560_577.out _; (with_reducible repeat (first | refine blk_drewN ?_ _ | refine blk_drew ?_ | refine blk_alloc ?_ _)); exact BK560.out) : p := h
theorem zr25 {p : Prop} (h : p := by (with_reducible repeat (first | refine blk_drewN ?_ _ | refine blk_drew ?_ | refine blk_alloc ?_ _)); refine blk_far ?_ NB573_577.out _; (with_reducible repeat (first | refine blk_drewN ?_ _ | refine blk_drew ?_ | refine blk_alloc ?_ _)); refine blk_far ?_ NB573_577.out _; (with_reducible repeat (first | refine blk_drewN ?_ _ | refine blk_drew ?_ | refine blk_alloc ?_ _)); exact BK573.out) : p := h
theorem zr26 {p : Prop} (h : p := by (with_reducible repeat (first | refine blk_drewN ?_ _ | refine blk_drew ?_ | refine blk_alloc ?_ _)); refine blk_put (cs := #[.int .i64 t574, .int .i64 0]) ?_ 1 _ rfl; (with_reducible repeat (first | refine blk_drewN ?_ _ | refine blk_drew ?_ | refine blk_alloc ?_ _)); refine blk_put (cs := #[.int .i64 0, .int .i64 0]) ?_ 0 _ rfl; (with_reducible repeat (first | refine blk_drewN ?_ _ | refine blk_drew ?_ | refine blk_alloc ?_ _)); exact BK577.out) : p := h
theorem zr27 {p : Prop} (h : p := by repeat (first | (with_reducible first | exact HB.out | apply below_alloc | apply pw_below_drewN | apply below_drew1 | refine below_set ?_ GE560.out | refine below_set ?_ GE573.out | refine below_set ?_ GE577.out) | exact HB.out)) : p := h
theorem zr28 {p : Prop} (h : p := by have := HK1.out; have := HJ19.out; first | omega | exact Nat.le_refl _) : p := h
theorem zr29 {p : Prop} (h : p := by (with_reducible repeat (first | refine blk_drewN ?_ _ | refine blk_drew ?_ | refine blk_alloc ?_ _)); exact BK577.out) : p := h
theorem zr30 {p : Prop} (h : p := by have := HK1.out; have := HJ19.out; have := HJ55.out; omega) : p := h
end Go.Proofs.YtlmfoblgheepoaaGreatDoor.Z
section
open Go.Proofs.YtlmfoblgheepoaaGreatDoor.Z
namespace Go.Proofs.YtlmfoblgheepoaaGreatDoor.Pl
open Go.RowKit Go.Proofs.YtlmfoblgheepoaaGreatDoorW.PrintWords Go.Proofs.YtlmfoblgheepoaaGreatDoorW.PrintLast Go.Proofs.YtlmfoblgheepoaaGreatDoorW.PrintMore
attribute [local go_sem] max2_int min2_int max_two min_two max_three min_three max_four min_four
set_option linter.unusedVariables false
set_option linter.unusedSimpArgs false
mutual
def dialtonelaw12_PlanRanges.l0 : Nat → List (S29) → Int → Int → Int → Int → Int → Int → Option (Bool)
 | 0, _, _, _, _, _, _, _ => none
 | k + 1, x6, x7, x9, x11, x12, x13, x14 => if x14 < (x6.length : Int) then ((plan_Range.f k x6 x14 2).bind fun bt570 => ((plan_Range.f k x6 x14 1).bind fun bt574 => (if bt570.2.2 = 0 then (if bt574.2.2 = 0 then (if bt570.1 = bt574.1 then (if bt574.2.1 > bt570.2.1 then (dialtonelaw12_PlanRanges.j1 k x6 x7 x9 x11 x12 x13 x14 true bt570.1 bt570.2.1 bt574.1 bt574.2.1) else (if bt574.2.1 ≤ bt574.1 then (dialtonelaw12_PlanRanges.j1 k x6 x7 x9 x11 x12 x13 x14 true bt570.1 bt570.2.1 bt574.1 bt574.2.1) else (dialtonelaw12_PlanRanges.j1 k x6 x7 x9 x11 x12 x13 x14 (decide (bt570.2.1 > 100000000)) bt570.1 bt570.2.1 bt574.1 bt574.2.1))) else (dialtonelaw12_PlanRanges.j1 k x6 x7 x9 x11 x12 x13 x14 true bt570.1 bt570.2.1 bt574.1 bt574.2.1)) else (dialtonelaw12_PlanRanges.j1 k x6 x7 x9 x11 x12 x13 x14 true bt570.1 bt570.2.1 bt574.1 bt574.2.1)) else (dialtonelaw12_PlanRanges.j1 k x6 x7 x9 x11 x12 x13 x14 true bt570.1 bt570.2.1 bt574.1 bt574.2.1)))) else (if x12 ≤ 1 then (if x13 ≤ x12 then (if ((x12 == 1) == (x9 == 0)) = true then (some ((x13 == 1) == (x11 == 0))) else (some false)) else (some false)) else (some false))
def dialtonelaw12_PlanRanges.j1 : Nat → List (S29) → Int → Int → Int → Int → Int → Int → Bool → Int → Int → Int → Int → Option (Bool)
 | 0, _, _, _, _, _, _, _, _, _, _, _, _ => none
 | k + 1, x6, x7, x9, x11, x12, x13, x14, x91, x574000, x574001, x578000, x578001 => if x91 = true then (some false) else (if x574000 ≤ x7 then (dialtonelaw12_PlanRanges.j2 k x6 x7 x9 x11 x12 x13 x14 (decide (x7 < x574001)) x578000 x578001) else (dialtonelaw12_PlanRanges.j2 k x6 x7 x9 x11 x12 x13 x14 false x578000 x578001))
def dialtonelaw12_PlanRanges.j2 : Nat → List (S29) → Int → Int → Int → Int → Int → Int → Bool → Int → Int → Option (Bool)
 | 0, _, _, _, _, _, _, _, _, _, _ => none
 | k + 1, x6, x7, x9, x11, x12, x13, x14, x101, x578000, x578001 => if x101 = true then (if x578000 ≤ x7 then (if x7 < x578001 then (dialtonelaw12_PlanRanges.l0 k x6 x7 x9 x11 (wrap64 (x12 + 1)) (wrap64 (x13 + 1)) (wrap64 (x14 + 1))) else (dialtonelaw12_PlanRanges.l0 k x6 x7 x9 x11 (wrap64 (x12 + 1)) x13 (wrap64 (x14 + 1)))) else (dialtonelaw12_PlanRanges.l0 k x6 x7 x9 x11 (wrap64 (x12 + 1)) x13 (wrap64 (x14 + 1)))) else (if x578000 ≤ x7 then (if x7 < x578001 then (dialtonelaw12_PlanRanges.l0 k x6 x7 x9 x11 x12 (wrap64 (x13 + 1)) (wrap64 (x14 + 1))) else (dialtonelaw12_PlanRanges.l0 k x6 x7 x9 x11 x12 x13 (wrap64 (x14 + 1)))) else (dialtonelaw12_PlanRanges.l0 k x6 x7 x9 x11 x12 x13 (wrap64 (x14 + 1))))
end
def dialtonelaw12_PlanRanges.f (k : Nat) (l0 : List (S23)) (a1_0 : Int) (a1_1 : Int) : Option (Bool) := (dialtonelaw12_sane.f k).bind fun t561 => (if t561 = true then ((dialtoneref12_Made.f k l0).bind fun t562 => ((dialtoneref12_Number.f k t562 a1_0 a1_1).bind fun t565 => ((plan_Write.f k t562 t565 3).bind fun bt566 => ((plan_Write.f k t562 t565 1).bind fun bt568 => (dialtonelaw12_PlanRanges.l0 k t562 t565 bt566.2 bt568.2 0 0 0))))) else (some false))
set_option maxHeartbeats 8000000 in
set_option maxRecDepth 100000 in
theorem dialtonelaw12_PlanRanges.calls (k : Nat) (A0 : Option Addr) (c0 : Nat) (l0 : List (S23)) (a1_0 : Int) (a1_1 : Int) (r : Bool) (w : World) (hr0 : Kd.C k23 w A0 l0.length l0) (hc0 : l0.length ≤ c0) (hG : Glb w) (h : dialtonelaw12_PlanRanges.f k l0 a1_0 a1_1 = some r) :
 Calls Tryz.prog 9 #[.slice A0 l0.length c0, .agg #[.int .i64 a1_0, .int .i64 a1_1]] w fun e w' => e = .returned (.bool r) ∧ Below w.heap.size w w' := by
 have HGLB := Aside0.mk hG
 clear hG
 have hu50 := Tryz.underlying50
 have hu40 := Tryz.underlying40
 have HR0 := Aside0.mk hr0
 have HC0 := Aside0.mk hc0
 clear hr0 hc0
 have HB := Aside0.mk (Below.refl w.heap.size w)
 have H : ((dialtonelaw12_sane.f k).bind fun t561 => (if t561 = true then ((dialtoneref12_Made.f k l0).bind fun t562 => ((dialtoneref12_Number.f k t562 a1_0 a1_1).bind fun t565 => ((plan_Write.f k t562 t565 3).bind fun bt566 => ((plan_Write.f k t562 t565 1).bind fun bt568 => (dialtonelaw12_PlanRanges.l0 k t562 t565 bt566.2 bt568.2 0 0 0))))) else (some false))) = some r := h
 clear h
 replace H := Option.bind_eq_some_iff.mp H
 obtain ⟨t561, A30, H⟩ := H
 try dsimp only at H
 have A3 := Aside0.mk A30
 clear A30
 by_cases c4 : t561 = true
 rotate_left
 ·replace c4 := Bool.eq_false_iff.mpr c4
  subst c4
  rw [if_neg (show ¬ (false = true) by decide)] at H
  obtain rfl := Option.some.inj H
  go_enter Tryz.func9, Tryz.ntmps9
  go_wp2_with (first | ((with_reducible refine gate_dst (N := 3) rfl ?_); refine box_event ?hg (N := 3) ?hd (cs := #[.int .i64 a1_0, .int .i64 a1_1]) (t := 50) ?hr ?_; (case hd => rfl); (case hg => rfl); (case hr => exact zq0); intro gb560 hg w90 hbox hb; have n0_ := Aside0.mk (below_step (zq1) hb); have n1_ := Aside0.mk (hbox); have n2_ := Aside0.mk ((zq2 : w.heap.size ≤ gb560)); have n3_ := Aside0.mk ((zq2 : w.heap.size ≤ gb560)); clear HB; have HB := n0_; have BK560 := n1_; have GW560 := n2_; have GE560 := n3_; clear n0_ n1_ n2_ n3_; clear hb hbox hg) | ((with_reducible refine gate_callee (f := 11) rfl ?_); refine goesL_ (some 19) rfl rfl Tryz.func11 (by kernel_rfl) rfl #[] rfl (zq3) ?_; (with_reducible refine (dialtonelaw12_sane.calls k  false _ ?side1 A3.out).mono ?_); (case side1 => exact zr4); rintro e w91 ⟨rfl, hb⟩; refine ⟨_, rfl, ?_⟩; have n0_ := Aside0.mk (blk_below (g := gb560) (o := .cells #[.int .i64 a1_0, .int .i64 a1_1] 50 (0, 0)) (zr6) hb); have n1_ := Aside0.mk (below_step (zr5) hb); clear BK560; clear HB; have BK560 := n0_; have HB := n1_; clear n0_ n1_; (try clear hb); (try clear hb2); (try clear hk); (try clear hi)))
  go_ret
  exact ⟨zr21, zr5⟩
 subst c4
 rw [if_pos rfl] at H
 replace H := Option.bind_eq_some_iff.mp H
 obtain ⟨t562, A50, H⟩ := H
 try dsimp only at H
 have A5 := Aside0.mk A50
 clear A50
 replace H := Option.bind_eq_some_iff.mp H
 obtain ⟨t565, A60, H⟩ := H
 try dsimp only at H
 have A6 := Aside0.mk A60
 clear A60
 replace H := Option.bind_eq_some_iff.mp H
 obtain ⟨⟨t566, t567⟩, A70, H⟩ := H
 try dsimp only at H
 have A7 := Aside0.mk A70
 clear A70
 replace H := Option.bind_eq_some_iff.mp H
 obtain ⟨⟨t568, t569⟩, A80, H⟩ := H
 try dsimp only at H
 have A8 := Aside0.mk A80
 clear A80
 have H' := Aside0.mk H
 clear H
 go_enter Tryz.func9, Tryz.ntmps9
 go_wp2_with (first | ((with_reducible refine gate_dst (N := 3) rfl ?_); refine box_event ?hg (N := 3) ?hd (cs := #[.int .i64 a1_0, .int .i64 a1_1]) (t := 50) ?hr ?_; (case hd => rfl); (case hg => rfl); (case hr => exact zq0); intro gb560 hg w9 hbox hb; have n0_ := Aside0.mk (below_step (zq1) hb); have n1_ := Aside0.mk (hbox); have n2_ := Aside0.mk ((zq2 : w.heap.size ≤ gb560)); have n3_ := Aside0.mk ((zq2 : w.heap.size ≤ gb560)); clear HB; have HB := n0_; have BK560 := n1_; have GW560 := n2_; have GE560 := n3_; clear n0_ n1_ n2_ n3_; clear hb hbox hg) | ((with_reducible refine gate_callee (f := 11) rfl ?_); refine goesL_ (some 19) rfl rfl Tryz.func11 (by kernel_rfl) rfl #[] rfl (zq3) ?_; (with_reducible refine (dialtonelaw12_sane.calls k  true _ ?side1 A3.out).mono ?_); (case side1 => exact zr4); rintro e w10 ⟨rfl, hb⟩; refine ⟨_, rfl, ?_⟩; have n0_ := Aside0.mk (blk_below (g := gb560) (o := .cells #[.int .i64 a1_0, .int .i64 a1_1] 50 (0, 0)) (zr6) hb); have n1_ := Aside0.mk (below_step (zr5) hb); clear BK560; clear HB; have BK560 := n0_; have HB := n1_; clear n0_ n1_; (try clear hb); (try clear hb2); (try clear hk); (try clear hi)) | ((with_reducible refine gate_callee (f := 12) rfl ?_); refine goesL_ (some 23) rfl rfl Tryz.func12 (by kernel_rfl) rfl #[.slice A0 l0.length c0] rfl (zq3) ?_; (with_reducible refine (dialtoneref12_Made.calls k _ _ l0 t562 _ ?side1 ?side2 A5.out).mono ?_); (case side1 => exact zq25); (case side2 => exact zq26); rintro e w11 ⟨v563, rfl, ho0, hb⟩; refine ⟨_, rfl, ?_⟩; have n0_ := Aside0.mk (Kd.R_lower ho0 (below_size (zr5))); have n1_ := Aside0.mk (blk_below (g := gb560) (o := .cells #[.int .i64 a1_0, .int .i64 a1_1] 50 (0, 0)) (zr6) hb); have n2_ := Aside0.mk (below_step (zr5) hb); clear BK560; clear HB; have HO564 := n0_; have BK560 := n1_; have HB := n2_; clear n0_ n1_ n2_; (try clear hb); (try clear hb2); (try clear hk); (try clear hi); (try clear ho0); have hcz12_0 : w11.cell? ⟨gb560, 0, none⟩ = some (.int .i64 a1_0) := (blk_cell BK560.out 0).trans rfl; have hcz12_1 : w11.cell? ⟨gb560, 1, none⟩ = some (.int .i64 a1_1) := (blk_cell BK560.out 1).trans rfl; have hfz12_0 := blk_frozen BK560.out 0; have hfz12_1 := blk_frozen BK560.out 1; obtain ⟨Ao13, co13, eo13⟩ := Kd.R_slice HO564.out; subst eo13) | ((with_reducible refine gate_callee (f := 13) rfl ?_); refine goesL_ (some 29) rfl rfl Tryz.func13 (by kernel_rfl) rfl #[.slice Ao13 t562.length co13, .int .i64 a1_0, .int .i64 a1_1] rfl (zq3) ?_; (with_reducible refine (dialtoneref12_Number.calls k _ _ t562 a1_0 a1_1 t565 _ ?side1 ?side2 A6.out).mono ?_); (case side1 => exact zr9); (case side2 => exact zr10); rintro e w14 ⟨rfl, hb⟩; refine ⟨_, rfl, ?_⟩; have n0_ := Aside0.mk (Kd.R_below (zr11) hb); have n1_ := Aside0.mk (blk_below (g := gb560) (o := .cells #[.int .i64 a1_0, .int .i64 a1_1] 50 (0, 0)) (zr6) hb); have n2_ := Aside0.mk (below_step (zr5) hb); clear HO564; clear BK560; clear HB; have HO564 := n0_; have BK560 := n1_; have HB := n2_; clear n0_ n1_ n2_; (try clear hb); (try clear hb2); (try clear hk); (try clear hi)) | ((with_reducible refine gate_callee (f := 17) rfl ?_); refine goesL_ (some 33) rfl rfl Tryz.func17 (by kernel_rfl) rfl #[.slice Ao13 t562.length co13, .int .i64 t565, .int .i64 3] rfl (zq3) ?_; (with_reducible refine (plan_Write.calls k _ _ t562 t565 3 t566 t567 _ ?side1 ?side2 ?side3 A7.out).mono ?_); (case side1 => exact zr9); (case side2 => exact zr10); (case side3 => exact zr4); rintro e w15 ⟨rfl, hb⟩; refine ⟨_, rfl, ?_⟩; have n0_ := Aside0.mk (Kd.R_below (zr11) hb); have n1_ := Aside0.mk (blk_below (g := gb560) (o := .cells #[.int .i64 a1_0, .int .i64 a1_1] 50 (0, 0)) (zr6) hb); have n2_ := Aside0.mk (below_step (zr5) hb); clear HO564; clear BK560; clear HB; have HO564 := n0_; have BK560 := n1_; have HB := n2_; clear n0_ n1_ n2_; (try clear hb); (try clear hb2); (try clear hk); (try clear hi)) | ((with_reducible refine gate_callee (f := 17) rfl ?_); refine goesL_ (some 39) rfl rfl Tryz.func17 (by kernel_rfl) rfl #[.slice Ao13 t562.length co13, .int .i64 t565, .int .i64 1] rfl (zq3) ?_; (with_reducible refine (plan_Write.calls k _ _ t562 t565 1 t568 t569 _ ?side1 ?side2 ?side3 A8.out).mono ?_); (case side1 => exact zr9); (case side2 => exact zr10); (case side3 => exact zr4); rintro e w16 ⟨rfl, hb⟩; refine ⟨_, rfl, ?_⟩; have n0_ := Aside0.mk (Kd.R_below (zr11) hb); have n1_ := Aside0.mk (blk_below (g := gb560) (o := .cells #[.int .i64 a1_0, .int .i64 a1_1] 50 (0, 0)) (zr6) hb); have n2_ := Aside0.mk (below_step (zr5) hb); clear HO564; clear BK560; clear HB; have HO564 := n0_; have BK560 := n1_; have HB := n2_; clear n0_ n1_ n2_; (try clear hb); (try clear hb2); (try clear hk); (try clear hi)))
 go_loopg [12, 13, 14] k (fun kq v12 v13 v14 w' => ∃ (x12_1 : Int) (x13_1 : Int) (x14_1 : Int), v12 = .int .i64 x12_1 ∧ v13 = .int .i64 x13_1 ∧ v14 = .int .i64 x14_1 ∧ Aside0 (dialtonelaw12_PlanRanges.l0 kq t562 t565 t567 t569 x12_1 x13_1 x14_1 = some r) ∧ Aside0 (kq ≤ k) ∧ Aside0 (Kd.R k29 29 w' w.heap.size (fun _ => True) (.slice Ao13 t562.length co13) t562) ∧ Aside0 (w'.heap[gb560]? = some (.cells #[.int .i64 a1_0, .int .i64 a1_1] 50 (0, 0))) ∧ Aside0 (Below w.heap.size w w'))
 case atStart => exact ⟨(0), (0), (0), (zq6), (zq6), (zq6), H', ⟨Nat.le_refl _⟩, ⟨zr11⟩, ⟨zr6⟩, ⟨zr5⟩⟩
 case round =>
  clear H'
  try clear c1
  try clear p2
  try clear c4
  try clear p6
  try clear c9
  try clear c11
  try clear c12
  try clear c13
  try clear hcz12_0
  try clear hcz12_1
  try clear hfz12_0
  try clear hfz12_1
  obtain ⟨x12_1, x13_1, x14_1, rfl, rfl, rfl, HA, HK1, HO_6, BK560, HB⟩ := hrel
  cases gk with
  | zero => exact absurd HA.out (by simp [dialtonelaw12_PlanRanges.l0])
  | succ k1 =>
   have H := HA.out
   clear HA
   simp only [dialtonelaw12_PlanRanges.l0] at H
   by_cases c17 : x14_1 < (t562.length : Int)
   rotate_left
   ·rw [if_neg c17] at H
    have c17b0 : decide (x14_1 < (t562.length : Int)) = false := decide_eq_false c17
    clear c17
    by_cases c87 : x12_1 ≤ 1
    rotate_left
    ·rw [if_neg c87] at H
     have c87b0 : decide (x12_1 ≤ 1) = false := decide_eq_false c87
     clear c87
     obtain rfl := Option.some.inj H
     go_wp2
     go_ret
     exact ⟨zr21, zr5⟩
    rw [if_pos c87] at H
    have c87b0 : decide (x12_1 ≤ 1) = true := decide_eq_true c87
    clear c87
    by_cases c88 : x13_1 ≤ x12_1
    rotate_left
    ·rw [if_neg c88] at H
     have c88b0 : decide (x13_1 ≤ x12_1) = false := decide_eq_false c88
     clear c88
     obtain rfl := Option.some.inj H
     go_wp2
     go_ret
     exact ⟨zr21, zr5⟩
    rw [if_pos c88] at H
    have c88b0 : decide (x13_1 ≤ x12_1) = true := decide_eq_true c88
    clear c88
    by_cases c89 : ((x12_1 == 1) == (t567 == 0)) = true
    ·rw [if_pos c89] at H
     have c89b0 : ((x12_1 == 1) == (t567 == 0)) = true := c89
     (try (have c89b1 : decide ((x12_1 == 1) = (t567 == 0)) = true := by simpa using c89))
     (try (have c89b2 : ((x12_1 == 1) == (t567 == 0)) = true := by simpa using c89))
     clear c89
     obtain rfl := Option.some.inj H
     go_wp2
     go_ret
     exact ⟨zr21, zr5⟩
    rw [if_neg c89] at H
    have c89b0 : ((x12_1 == 1) == (t567 == 0)) = false := by simpa using c89
    (try (have c89b1 : decide ((x12_1 == 1) = (t567 == 0)) = false := by simpa using c89))
    (try (have c89b2 : ((x12_1 == 1) == (t567 == 0)) = false := by simpa using c89))
    (try (have c89b3 : ¬ ((x12_1 == 1) = (t567 == 0)) := by simpa using c89))
    clear c89
    obtain rfl := Option.some.inj H
    go_wp2
    go_ret
    exact ⟨zr21, zr5⟩
   rw [if_pos c17] at H
   have c17b0 : decide (x14_1 < (t562.length : Int)) = true := decide_eq_true c17
   clear c17
   replace H := Option.bind_eq_some_iff.mp H
   obtain ⟨⟨t570, t571, t572⟩, A180, H⟩ := H
   try dsimp only at H
   have A18 := Aside0.mk A180
   clear A180
   replace H := Option.bind_eq_some_iff.mp H
   obtain ⟨⟨t574, t575, t576⟩, A190, H⟩ := H
   try dsimp only at H
   have A19 := Aside0.mk A190
   clear A190
   have HC20 := Aside0.mk H
   clear H
   go_upto_region 15 with (first | ((with_reducible refine gate_callee (f := 19) rfl ?_); refine goesL_ (some 51) rfl rfl Tryz.func19 (by kernel_rfl) rfl #[.slice Ao13 t562.length co13, .int .i64 x14_1, .int .i64 2] rfl (zq3) ?_; (with_reducible refine (plan_Range.calls k1 _ _ t562 x14_1 2 t570 t571 t572 _ ?side1 ?side2 A18.out).mono ?_); (case side1 => repeat (first | exact (Kd.R_reads' HO_6.out).2.2 | (with_reducible refine Kd.C_alloc ?_ _) | (with_reducible refine Kd.C_drewN ?_ _) | (with_reducible refine Kd.C_drew ?_))); (case side2 => exact (Kd.R_reads' HO_6.out).2.1); rintro e w21 ⟨rfl, hb⟩; refine ⟨_, rfl, ?_⟩; have n0_ := Aside0.mk (Kd.R_below (zr13) hb); have n1_ := Aside0.mk (blk_below (g := gb560) (o := .cells #[.int .i64 a1_0, .int .i64 a1_1] 50 (0, 0)) (zr6) hb); have n2_ := Aside0.mk (below_step (zr5) hb); clear HO_6; clear BK560; clear HB; have HO_6 := n0_; have BK560 := n1_; have HB := n2_; clear n0_ n1_ n2_; (try clear hb); (try clear hb2); (try clear hk); (try clear hi)) | ((with_reducible refine gate_dst (N := 15) rfl ?_); refine box_event ?hg (N := 15) ?hd (cs := #[.int .i64 0, .int .i64 0]) (t := 40) ?hr ?_; (case hd => rfl); (case hg => rfl); (case hr => exact zq0); intro gb573 hg w22 hbox hb; have n0_ := Aside0.mk (Kd.R_below (zr13) hb); have n1_ := Aside0.mk (blk_below (g := gb560) (o := .cells #[.int .i64 a1_0, .int .i64 a1_1] 50 (0, 0)) (zr6) hb); have n2_ := Aside0.mk (below_step (zr5) hb); have n3_ := Aside0.mk (hbox); have n4_ := Aside0.mk ((zr14 : w.heap.size ≤ gb573)); have n5_ := Aside0.mk ((zr14 : w.heap.size ≤ gb573)); have n6_ := Aside0.mk ((zr15 : gb560 ≠ gb573)); have n7_ := Aside0.mk ((zr16 : gb573 ≠ gb560)); clear HO_6; clear BK560; clear HB; have HO_6 := n0_; have BK560 := n1_; have HB := n2_; have BK573 := n3_; have GW573 := n4_; have GE573 := n5_; have NB560_573 := n6_; have NB573_560 := n7_; clear n0_ n1_ n2_ n3_ n4_ n5_ n6_ n7_; clear hb hbox hg; have hnb23 := NB573_560.out; have hnc23 := NB560_573.out; have hcz24_0 : w22.cell? ⟨gb573, 0, none⟩ = some (.int .i64 0) := (blk_cell BK573.out 0).trans rfl; have hcz24_1 : w22.cell? ⟨gb573, 1, none⟩ = some (.int .i64 0) := (blk_cell BK573.out 1).trans rfl; have hfz24_0 := blk_frozen BK573.out 0; have hfz24_1 := blk_frozen BK573.out 1) | ((with_reducible refine gate_callee (f := 19) rfl ?_); refine goesL_ (some 57) rfl rfl Tryz.func19 (by kernel_rfl) rfl #[.slice Ao13 t562.length co13, .int .i64 x14_1, .int .i64 1] rfl (zq3) ?_; (with_reducible refine (plan_Range.calls k1 _ _ t562 x14_1 1 t574 t575 t576 _ ?side1 ?side2 A19.out).mono ?_); (case side1 => refine (Kd.R_reads' (e := 29) (base := w.heap.size) (ok := fun k_ => True) (n := t562.length) (c := co13) ?_).2.2; exact (zr17)); (case side2 => exact (Kd.R_reads' HO_6.out).2.1); rintro e w25 ⟨rfl, hb⟩; refine ⟨_, rfl, ?_⟩; have n0_ := Aside0.mk (Kd.R_below (zr17) hb); have n1_ := Aside0.mk (blk_below (g := gb560) (o := .cells #[.int .i64 a1_0, .int .i64 a1_1] 50 (0, 0)) (by (with_reducible repeat (first | refine blk_drewN ?_ _ | refine blk_drew ?_ | refine blk_alloc ?_ _)); refine blk_far ?_ NB560_573.out _; (with_reducible repeat (first | refine blk_drewN ?_ _ | refine blk_drew ?_ | refine blk_alloc ?_ _)); refine blk_far ?_ NB560_573.out _; (with_reducible repeat (first | refine blk_drewN ?_ _ | refine blk_drew ?_ | refine blk_alloc ?_ _)); exact BK560.out) hb); have n2_ := Aside0.mk (blk_below (g := gb573) (o := .cells #[.int .i64 t570, .int .i64 t571] 40 (0, 0)) (by (with_reducible repeat (first | refine blk_drewN ?_ _ | refine blk_drew ?_ | refine blk_alloc ?_ _)); refine blk_put (cs := #[.int .i64 t570, .int .i64 0]) ?_ 1 _ rfl; (with_reducible repeat (first | refine blk_drewN ?_ _ | refine blk_drew ?_ | refine blk_alloc ?_ _)); refine blk_put (cs := #[.int .i64 0, .int .i64 0]) ?_ 0 _ rfl; (with_reducible repeat (first | refine blk_drewN ?_ _ | refine blk_drew ?_ | refine blk_alloc ?_ _)); exact BK573.out) hb); have n3_ := Aside0.mk (below_step (zr18) hb); clear HO_6; clear BK560; clear BK573; clear HB; have HO_6 := n0_; have BK560 := n1_; have BK573 := n2_; have HB := n3_; clear n0_ n1_ n2_ n3_; (try clear hb); (try clear hb2); (try clear hk); (try clear hi)) | ((with_reducible refine gate_dst (N := 17) rfl ?_); refine box_event ?hg (N := 17) ?hd (cs := #[.int .i64 0, .int .i64 0]) (t := 40) ?hr ?_; (case hd => rfl); (case hg => rfl); (case hr => exact zq0); intro gb577 hg w26 hbox hb; have n0_ := Aside0.mk (Kd.R_below (zr13) hb); have n1_ := Aside0.mk (blk_below (g := gb560) (o := .cells #[.int .i64 a1_0, .int .i64 a1_1] 50 (0, 0)) (zr6) hb); have n2_ := Aside0.mk (blk_below (g := gb573) (o := .cells #[.int .i64 t570, .int .i64 t571] 40 (0, 0)) (zr19) hb); have n3_ := Aside0.mk (below_step (zr18) hb); have n4_ := Aside0.mk (hbox); have n5_ := Aside0.mk ((zr20 : w.heap.size ≤ gb577)); have n6_ := Aside0.mk ((zr20 : w.heap.size ≤ gb577)); have n7_ := Aside0.mk ((zr15 : gb560 ≠ gb577)); have n8_ := Aside0.mk ((zr16 : gb577 ≠ gb560)); have n9_ := Aside0.mk ((by rw [hg]; exact Nat.ne_of_lt (blk_lt (g := gb573) (o := .cells #[.int .i64 t570, .int .i64 t571] 40 (0, 0)) (zr19)) : gb573 ≠ gb577)); have n10_ := Aside0.mk ((by rw [hg]; exact Nat.ne_of_gt (blk_lt (g := gb573) (o := .cells #[.int .i64 t570, .int .i64 t571] 40 (0, 0)) (zr19)) : gb577 ≠ gb573)); clear HO_6; clear BK560; clear BK573; clear HB; have HO_6 := n0_; have BK560 := n1_; have BK573 := n2_; have HB := n3_; have BK577 := n4_; have GW577 := n5_; have GE577 := n6_; have NB560_577 := n7_; have NB577_560 := n8_; have NB573_577 := n9_; have NB577_573 := n10_; clear n0_ n1_ n2_ n3_ n4_ n5_ n6_ n7_ n8_ n9_ n10_; clear hb hbox hg; have hnb27 := NB577_560.out; have hnc27 := NB560_577.out; have hnb28 := NB577_573.out; have hnc28 := NB573_577.out; have hcz29_0 : w26.cell? ⟨gb577, 0, none⟩ = some (.int .i64 0) := (blk_cell BK577.out 0).trans rfl; have hcz29_1 : w26.cell? ⟨gb577, 1, none⟩ = some (.int .i64 0) := (blk_cell BK577.out 1).trans rfl; have hfz29_0 := blk_frozen BK577.out 0; have hfz29_1 := blk_frozen BK577.out 1))
   (try simp only [Act.put, List.setIfInBounds_toArray, List.set_cons_zero, List.set_cons_succ])
   go_cut [91] (fun v91 wc => ∃ (kq : Nat) (x91_19 : Bool), v91 = .bool x91_19 ∧ Aside0 (dialtonelaw12_PlanRanges.j1 kq t562 t565 t567 t569 x12_1 x13_1 x14_1 x91_19 t570 t571 t574 t575 = some r) ∧ Aside0 (kq ≤ k1) ∧ Aside0 (Kd.R k29 29 wc w.heap.size (fun _ => True) (.slice Ao13 t562.length co13) t562) ∧ Aside0 (wc.heap[gb560]? = some (.cells #[.int .i64 a1_0, .int .i64 a1_1] 50 (0, 0))) ∧ Aside0 (wc.heap[gb573]? = some (.cells #[.int .i64 t570, .int .i64 t571] 40 (0, 0))) ∧ Aside0 (wc.heap[gb577]? = some (.cells #[.int .i64 t574, .int .i64 t575] 40 (0, 0))) ∧ Aside0 (Below w.heap.size w wc))
   case first =>
    have H := HC20.out
    clear HC20
    by_cases c30 : t572 = 0
    rotate_left
    ·rw [if_neg c30] at H
     have c30b0 : (t572 == 0) = false := beq_eq_false_iff_ne.mpr c30
     have c30b1 : (t572 != 0) = true := bne_iff_ne.mpr c30
     (first | rw [c30b0] | (simp only [i64_w, i32_w]; rw [c30b0]) | skip)
     have H' := Aside0.mk H
     clear H
     go_wp2
     go_meet
     case rel => exact ⟨_, (true), (zq6), H', ⟨zr22⟩, ⟨zr23⟩, ⟨zr24⟩, ⟨zr25⟩, ⟨zr26⟩, ⟨zr27⟩⟩
    rw [if_pos c30] at H
    have c30b0 : (t572 == 0) = true := beq_iff_eq.mpr c30
    have c30b1 : (t572 != 0) = false := bne_eq_false_iff_eq.mpr c30
    clear c30
    (first | rw [c30b0] | (simp only [i64_w, i32_w]; rw [c30b0]) | skip)
    by_cases c31 : t576 = 0
    rotate_left
    ·rw [if_neg c31] at H
     have c31b0 : (t576 == 0) = false := beq_eq_false_iff_ne.mpr c31
     have c31b1 : (t576 != 0) = true := bne_iff_ne.mpr c31
     have H' := Aside0.mk H
     clear H
     go_wp2
     go_meet
     case rel => exact ⟨_, (true), (zq6), H', ⟨zr22⟩, ⟨zr23⟩, ⟨zr24⟩, ⟨zr25⟩, ⟨zr26⟩, ⟨zr27⟩⟩
    rw [if_pos c31] at H
    have c31b0 : (t576 == 0) = true := beq_iff_eq.mpr c31
    have c31b1 : (t576 != 0) = false := bne_eq_false_iff_eq.mpr c31
    clear c31
    by_cases c32 : t570 = t574
    rotate_left
    ·rw [if_neg c32] at H
     have c32b0 : (t570 == t574) = false := beq_eq_false_iff_ne.mpr c32
     have c32b1 : (t570 != t574) = true := bne_iff_ne.mpr c32
     have H' := Aside0.mk H
     clear H
     have hnb50 := NB573_560.out
     have hnc50 := NB560_573.out
     have hnb51 := NB573_577.out
     have hnc51 := NB577_573.out
     have hcz52_0 : w26.cell? ⟨gb573, 0, none⟩ = some (.int .i64 t570) := (blk_cell BK573.out 0).trans rfl
     have hcz52_1 : w26.cell? ⟨gb573, 1, none⟩ = some (.int .i64 t571) := (blk_cell BK573.out 1).trans rfl
     have hfz52_0 := blk_frozen BK573.out 0
     have hfz52_1 := blk_frozen BK573.out 1
     have hnb53 := NB577_560.out
     have hnc53 := NB560_577.out
     have hcz54_0 : w26.cell? ⟨gb577, 0, none⟩ = some (.int .i64 0) := (blk_cell BK577.out 0).trans rfl
     have hcz54_1 : w26.cell? ⟨gb577, 1, none⟩ = some (.int .i64 0) := (blk_cell BK577.out 1).trans rfl
     have hfz54_0 := blk_frozen BK577.out 0
     have hfz54_1 := blk_frozen BK577.out 1
     go_wp2
     go_meet
     case rel => exact ⟨_, (true), (zq6), H', ⟨zr22⟩, ⟨zr23⟩, ⟨zr24⟩, ⟨zr25⟩, ⟨zr26⟩, ⟨zr27⟩⟩
    rw [if_pos c32] at H
    have c32b0 : (t570 == t574) = true := beq_iff_eq.mpr c32
    have c32b1 : (t570 != t574) = false := bne_eq_false_iff_eq.mpr c32
    clear c32
    by_cases c33 : t575 > t571
    ·rw [if_pos c33] at H
     have c33b0 : decide (t571 < t575) = true := decide_eq_true c33
     clear c33
     have H' := Aside0.mk H
     clear H
     have hnb34 := NB573_560.out
     have hnc34 := NB560_573.out
     have hnb35 := NB573_577.out
     have hnc35 := NB577_573.out
     have hcz36_0 : w26.cell? ⟨gb573, 0, none⟩ = some (.int .i64 t570) := (blk_cell BK573.out 0).trans rfl
     have hcz36_1 : w26.cell? ⟨gb573, 1, none⟩ = some (.int .i64 t571) := (blk_cell BK573.out 1).trans rfl
     have hfz36_0 := blk_frozen BK573.out 0
     have hfz36_1 := blk_frozen BK573.out 1
     have hnb37 := NB577_560.out
     have hnc37 := NB560_577.out
     have hcz38_0 : w26.cell? ⟨gb577, 0, none⟩ = some (.int .i64 0) := (blk_cell BK577.out 0).trans rfl
     have hcz38_1 : w26.cell? ⟨gb577, 1, none⟩ = some (.int .i64 0) := (blk_cell BK577.out 1).trans rfl
     have hfz38_0 := blk_frozen BK577.out 0
     have hfz38_1 := blk_frozen BK577.out 1
     go_wp2
     go_meet
     case rel => exact ⟨_, (true), (zq6), H', ⟨zr22⟩, ⟨zr23⟩, ⟨zr24⟩, ⟨zr25⟩, ⟨zr26⟩, ⟨zr27⟩⟩
    rw [if_neg c33] at H
    have c33b0 : decide (t571 < t575) = false := decide_eq_false c33
    clear c33
    by_cases c39 : t575 ≤ t574
    ·rw [if_pos c39] at H
     have c39b0 : decide (t575 ≤ t574) = true := decide_eq_true c39
     clear c39
     have H' := Aside0.mk H
     clear H
     have hnb40 := NB573_560.out
     have hnc40 := NB560_573.out
     have hnb41 := NB573_577.out
     have hnc41 := NB577_573.out
     have hcz42_0 : w26.cell? ⟨gb573, 0, none⟩ = some (.int .i64 t570) := (blk_cell BK573.out 0).trans rfl
     have hcz42_1 : w26.cell? ⟨gb573, 1, none⟩ = some (.int .i64 t571) := (blk_cell BK573.out 1).trans rfl
     have hfz42_0 := blk_frozen BK573.out 0
     have hfz42_1 := blk_frozen BK573.out 1
     have hnb43 := NB577_560.out
     have hnc43 := NB560_577.out
     have hcz44_0 : w26.cell? ⟨gb577, 0, none⟩ = some (.int .i64 0) := (blk_cell BK577.out 0).trans rfl
     have hcz44_1 : w26.cell? ⟨gb577, 1, none⟩ = some (.int .i64 0) := (blk_cell BK577.out 1).trans rfl
     have hfz44_0 := blk_frozen BK577.out 0
     have hfz44_1 := blk_frozen BK577.out 1
     go_wp2
     go_meet
     case rel => exact ⟨_, (true), (zq6), H', ⟨zr22⟩, ⟨zr23⟩, ⟨zr24⟩, ⟨zr25⟩, ⟨zr26⟩, ⟨zr27⟩⟩
    rw [if_neg c39] at H
    have c39b0 : decide (t575 ≤ t574) = false := decide_eq_false c39
    clear c39
    have H' := Aside0.mk H
    clear H
    have hnb45 := NB573_560.out
    have hnc45 := NB560_573.out
    have hnb46 := NB573_577.out
    have hnc46 := NB577_573.out
    have hcz47_0 : w26.cell? ⟨gb573, 0, none⟩ = some (.int .i64 t570) := (blk_cell BK573.out 0).trans rfl
    have hcz47_1 : w26.cell? ⟨gb573, 1, none⟩ = some (.int .i64 t571) := (blk_cell BK573.out 1).trans rfl
    have hfz47_0 := blk_frozen BK573.out 0
    have hfz47_1 := blk_frozen BK573.out 1
    have hnb48 := NB577_560.out
    have hnc48 := NB560_577.out
    have hcz49_0 : w26.cell? ⟨gb577, 0, none⟩ = some (.int .i64 0) := (blk_cell BK577.out 0).trans rfl
    have hcz49_1 : w26.cell? ⟨gb577, 1, none⟩ = some (.int .i64 0) := (blk_cell BK577.out 1).trans rfl
    have hfz49_0 := blk_frozen BK577.out 0
    have hfz49_1 := blk_frozen BK577.out 1
    go_wp2
    go_meet
    case rel => exact ⟨_, (decide (t571 > 100000000)), (zq6), H', ⟨zr22⟩, ⟨zr23⟩, ⟨zr24⟩, ⟨zr25⟩, ⟨zr26⟩, ⟨zr27⟩⟩
   case rest =>
    clear HC20
    try clear c1
    try clear c2
    try clear p2
    try clear c3
    try clear c4
    try clear c5
    try clear p6
    try clear c9
    try clear c11
    try clear c12
    try clear c13
    try clear c17
    try clear c17b0
    try clear c19
    try clear c23
    try clear c27
    try clear c28
    try clear c30
    try clear c30b0
    try clear c30b1
    try clear c31
    try clear c31b0
    try clear c31b1
    try clear c32
    try clear c32b0
    try clear c32b1
    try clear c33
    try clear c33b0
    try clear c34
    try clear c35
    try clear c37
    try clear c39
    try clear c39b0
    try clear c40
    try clear c41
    try clear c43
    try clear c45
    try clear c46
    try clear c48
    try clear c50
    try clear c51
    try clear c53
    try clear hcz12_0
    try clear hcz12_1
    try clear hcz24_0
    try clear hcz24_1
    try clear hcz29_0
    try clear hcz29_1
    try clear hcz36_0
    try clear hcz36_1
    try clear hcz38_0
    try clear hcz38_1
    try clear hcz42_0
    try clear hcz42_1
    try clear hcz44_0
    try clear hcz44_1
    try clear hcz47_0
    try clear hcz47_1
    try clear hcz49_0
    try clear hcz49_1
    try clear hcz52_0
    try clear hcz52_1
    try clear hcz54_0
    try clear hcz54_1
    try clear hfz12_0
    try clear hfz12_1
    try clear hfz24_0
    try clear hfz24_1
    try clear hfz29_0
    try clear hfz29_1
    try clear hfz36_0
    try clear hfz36_1
    try clear hfz38_0
    try clear hfz38_1
    try clear hfz42_0
    try clear hfz42_1
    try clear hfz44_0
    try clear hfz44_1
    try clear hfz47_0
    try clear hfz47_1
    try clear hfz49_0
    try clear hfz49_1
    try clear hfz52_0
    try clear hfz52_1
    try clear hfz54_0
    try clear hfz54_1
    try clear p2
    try clear p6
    obtain ⟨kq, x91_19, rfl, HA, HJ19, HO_6, BK560, BK573, BK577, HB⟩ := hcut
    cases kq with
    | zero => exact absurd HA.out (by simp [dialtonelaw12_PlanRanges.j1])
    | succ kj19 =>
     have H := HA.out
     clear HA
     simp only [dialtonelaw12_PlanRanges.j1] at H
     by_cases c55 : x91_19 = true
     ·subst c55
      rw [if_pos rfl] at H
      obtain rfl := Option.some.inj H
      go_wp2
      go_ret
      exact ⟨zr21, zr27⟩
     replace c55 := Bool.eq_false_iff.mpr c55
     subst c55
     rw [if_neg (show ¬ (false = true) by decide)] at H
     have HC56 := Aside0.mk H
     clear H
     go_upto_region 17 with (fail)
     go_cut [101] (fun v101 wc => ∃ (kq : Nat) (x101_55 : Bool), v101 = .bool x101_55 ∧ Aside0 (dialtonelaw12_PlanRanges.j2 kq t562 t565 t567 t569 x12_1 x13_1 x14_1 x101_55 t574 t575 = some r) ∧ Aside0 (kq ≤ kj19) ∧ Aside0 (Kd.R k29 29 wc w.heap.size (fun _ => True) (.slice Ao13 t562.length co13) t562) ∧ Aside0 (wc.heap[gb560]? = some (.cells #[.int .i64 a1_0, .int .i64 a1_1] 50 (0, 0))) ∧ Aside0 (wc.heap[gb573]? = some (.cells #[.int .i64 t570, .int .i64 t571] 40 (0, 0))) ∧ Aside0 (wc.heap[gb577]? = some (.cells #[.int .i64 t574, .int .i64 t575] 40 (0, 0))) ∧ Aside0 (Below w.heap.size w wc))
     case first =>
      have H := HC56.out
      clear HC56
      by_cases c57 : t570 ≤ t565
      rotate_left
      ·rw [if_neg c57] at H
       have c57b0 : decide (t570 ≤ t565) = false := decide_eq_false c57
       clear c57
       (first | rw [c57b0] | (simp only [i64_w, i32_w]; rw [c57b0]) | skip)
       have H' := Aside0.mk H
       clear H
       have hnb61 := NB573_560.out
       have hnc61 := NB560_573.out
       have hnb62 := NB573_577.out
       have hnc62 := NB577_573.out
       have hcz63_0 : wc.cell? ⟨gb573, 0, none⟩ = some (.int .i64 t570) := (blk_cell BK573.out 0).trans rfl
       have hcz63_1 : wc.cell? ⟨gb573, 1, none⟩ = some (.int .i64 t571) := (blk_cell BK573.out 1).trans rfl
       have hfz63_0 := blk_frozen BK573.out 0
       have hfz63_1 := blk_frozen BK573.out 1
       go_wp2
       go_meet
       case rel => exact ⟨_, (false), (zq6), H', ⟨zr28⟩, ⟨zr13⟩, ⟨zr6⟩, ⟨zr19⟩, ⟨zr29⟩, ⟨zr27⟩⟩
      rw [if_pos c57] at H
      have c57b0 : decide (t570 ≤ t565) = true := decide_eq_true c57
      clear c57
      (first | rw [c57b0] | (simp only [i64_w, i32_w]; rw [c57b0]) | skip)
      have H' := Aside0.mk H
      clear H
      have hnb58 := NB573_560.out
      have hnc58 := NB560_573.out
      have hnb59 := NB573_577.out
      have hnc59 := NB577_573.out
      have hcz60_0 : wc.cell? ⟨gb573, 0, none⟩ = some (.int .i64 t570) := (blk_cell BK573.out 0).trans rfl
      have hcz60_1 : wc.cell? ⟨gb573, 1, none⟩ = some (.int .i64 t571) := (blk_cell BK573.out 1).trans rfl
      have hfz60_0 := blk_frozen BK573.out 0
      have hfz60_1 := blk_frozen BK573.out 1
      go_wp2
      go_meet
      case rel => exact ⟨_, (decide (t565 < t571)), (zq6), H', ⟨zr28⟩, ⟨zr13⟩, ⟨zr6⟩, ⟨zr19⟩, ⟨zr29⟩, ⟨zr27⟩⟩
     case rest =>
      clear HC56
      try clear c1
      try clear c2
      try clear p2
      try clear c3
      try clear c4
      try clear c5
      try clear c6
      try clear p6
      try clear c9
      try clear c11
      try clear c12
      try clear c13
      try clear c17
      try clear c17b0
      try clear c19
      try clear c23
      try clear c27
      try clear c28
      try clear c30
      try clear c30b0
      try clear c30b1
      try clear c31
      try clear c31b0
      try clear c31b1
      try clear c32
      try clear c32b0
      try clear c32b1
      try clear c33
      try clear c33b0
      try clear c34
      try clear c35
      try clear c37
      try clear c39
      try clear c39b0
      try clear c40
      try clear c41
      try clear c43
      try clear c45
      try clear c46
      try clear c48
      try clear c50
      try clear c51
      try clear c53
      try clear c55
      try clear c57
      try clear c57b0
      try clear c58
      try clear c59
      try clear c61
      try clear c62
      try clear hcz12_0
      try clear hcz12_1
      try clear hcz24_0
      try clear hcz24_1
      try clear hcz29_0
      try clear hcz29_1
      try clear hcz36_0
      try clear hcz36_1
      try clear hcz38_0
      try clear hcz38_1
      try clear hcz42_0
      try clear hcz42_1
      try clear hcz44_0
      try clear hcz44_1
      try clear hcz47_0
      try clear hcz47_1
      try clear hcz49_0
      try clear hcz49_1
      try clear hcz52_0
      try clear hcz52_1
      try clear hcz54_0
      try clear hcz54_1
      try clear hcz60_0
      try clear hcz60_1
      try clear hcz63_0
      try clear hcz63_1
      try clear hfz12_0
      try clear hfz12_1
      try clear hfz24_0
      try clear hfz24_1
      try clear hfz29_0
      try clear hfz29_1
      try clear hfz36_0
      try clear hfz36_1
      try clear hfz38_0
      try clear hfz38_1
      try clear hfz42_0
      try clear hfz42_1
      try clear hfz44_0
      try clear hfz44_1
      try clear hfz47_0
      try clear hfz47_1
      try clear hfz49_0
      try clear hfz49_1
      try clear hfz52_0
      try clear hfz52_1
      try clear hfz54_0
      try clear hfz54_1
      try clear hfz60_0
      try clear hfz60_1
      try clear hfz63_0
      try clear hfz63_1
      try clear p2
      try clear p6
      obtain ⟨kq, x101_55, rfl, HA, HJ55, HO_6, BK560, BK573, BK577, HB⟩ := hcut
      cases kq with
      | zero => exact absurd HA.out (by simp [dialtonelaw12_PlanRanges.j2])
      | succ kj55 =>
       have H := HA.out
       clear HA
       simp only [dialtonelaw12_PlanRanges.j2] at H
       by_cases c64 : x101_55 = true
       ·subst c64
        rw [if_pos rfl] at H
        by_cases c65 : t574 ≤ t565
        rotate_left
        ·rw [if_neg c65] at H
         have c65b0 : decide (t574 ≤ t565) = false := decide_eq_false c65
         clear c65
         have H' := Aside0.mk H
         clear H
         have hnb73 := NB577_560.out
         have hnc73 := NB560_577.out
         have hnb74 := NB577_573.out
         have hnc74 := NB573_577.out
         have hcz75_0 : wc.cell? ⟨gb577, 0, none⟩ = some (.int .i64 t574) := (blk_cell BK577.out 0).trans rfl
         have hcz75_1 : wc.cell? ⟨gb577, 1, none⟩ = some (.int .i64 t575) := (blk_cell BK577.out 1).trans rfl
         have hfz75_0 := blk_frozen BK577.out 0
         have hfz75_1 := blk_frozen BK577.out 1
         go_wp2
         go_roundg kj55
         case measure => have := HK1.out; have := HJ19.out; have := HJ55.out; omega
         case rel => exact ⟨(wrap64 (x12_1 + 1)), (x13_1), (wrap64 (x14_1 + 1)), (zq6), (zq6), (zq6), H', ⟨zr30⟩, ⟨zr13⟩, ⟨zr6⟩, ⟨zr27⟩⟩
        rw [if_pos c65] at H
        have c65b0 : decide (t574 ≤ t565) = true := decide_eq_true c65
        clear c65
        by_cases c66 : t565 < t575
        rotate_left
        ·rw [if_neg c66] at H
         have c66b0 : decide (t565 < t575) = false := decide_eq_false c66
         clear c66
         have H' := Aside0.mk H
         clear H
         have hnb70 := NB577_560.out
         have hnc70 := NB560_577.out
         have hnb71 := NB577_573.out
         have hnc71 := NB573_577.out
         have hcz72_0 : wc.cell? ⟨gb577, 0, none⟩ = some (.int .i64 t574) := (blk_cell BK577.out 0).trans rfl
         have hcz72_1 : wc.cell? ⟨gb577, 1, none⟩ = some (.int .i64 t575) := (blk_cell BK577.out 1).trans rfl
         have hfz72_0 := blk_frozen BK577.out 0
         have hfz72_1 := blk_frozen BK577.out 1
         go_wp2
         go_roundg kj55
         case measure => have := HK1.out; have := HJ19.out; have := HJ55.out; omega
         case rel => exact ⟨(wrap64 (x12_1 + 1)), (x13_1), (wrap64 (x14_1 + 1)), (zq6), (zq6), (zq6), H', ⟨zr30⟩, ⟨zr13⟩, ⟨zr6⟩, ⟨zr27⟩⟩
        rw [if_pos c66] at H
        have c66b0 : decide (t565 < t575) = true := decide_eq_true c66
        clear c66
        have H' := Aside0.mk H
        clear H
        have hnb67 := NB577_560.out
        have hnc67 := NB560_577.out
        have hnb68 := NB577_573.out
        have hnc68 := NB573_577.out
        have hcz69_0 : wc.cell? ⟨gb577, 0, none⟩ = some (.int .i64 t574) := (blk_cell BK577.out 0).trans rfl
        have hcz69_1 : wc.cell? ⟨gb577, 1, none⟩ = some (.int .i64 t575) := (blk_cell BK577.out 1).trans rfl
        have hfz69_0 := blk_frozen BK577.out 0
        have hfz69_1 := blk_frozen BK577.out 1
        go_wp2
        go_roundg kj55
        case measure => have := HK1.out; have := HJ19.out; have := HJ55.out; omega
        case rel => exact ⟨(wrap64 (x12_1 + 1)), (wrap64 (x13_1 + 1)), (wrap64 (x14_1 + 1)), (zq6), (zq6), (zq6), H', ⟨zr30⟩, ⟨zr13⟩, ⟨zr6⟩, ⟨zr27⟩⟩
       replace c64 := Bool.eq_false_iff.mpr c64
       subst c64
       rw [if_neg (show ¬ (false = true) by decide)] at H
       by_cases c76 : t574 ≤ t565
       rotate_left
       ·rw [if_neg c76] at H
        have c76b0 : decide (t574 ≤ t565) = false := decide_eq_false c76
        clear c76
        have H' := Aside0.mk H
        clear H
        have hnb84 := NB577_560.out
        have hnc84 := NB560_577.out
        have hnb85 := NB577_573.out
        have hnc85 := NB573_577.out
        have hcz86_0 : wc.cell? ⟨gb577, 0, none⟩ = some (.int .i64 t574) := (blk_cell BK577.out 0).trans rfl
        have hcz86_1 : wc.cell? ⟨gb577, 1, none⟩ = some (.int .i64 t575) := (blk_cell BK577.out 1).trans rfl
        have hfz86_0 := blk_frozen BK577.out 0
        have hfz86_1 := blk_frozen BK577.out 1
        go_wp2
        go_roundg kj55
        case measure => have := HK1.out; have := HJ19.out; have := HJ55.out; omega
        case rel => exact ⟨(x12_1), (x13_1), (wrap64 (x14_1 + 1)), (zq6), (zq6), (zq6), H', ⟨zr30⟩, ⟨zr13⟩, ⟨zr6⟩, ⟨zr27⟩⟩
       rw [if_pos c76] at H
       have c76b0 : decide (t574 ≤ t565) = true := decide_eq_true c76
       clear c76
       by_cases c77 : t565 < t575
       rotate_left
       ·rw [if_neg c77] at H
        have c77b0 : decide (t565 < t575) = false := decide_eq_false c77
        clear c77
        have H' := Aside0.mk H
        clear H
        have hnb81 := NB577_560.out
        have hnc81 := NB560_577.out
        have hnb82 := NB577_573.out
        have hnc82 := NB573_577.out
        have hcz83_0 : wc.cell? ⟨gb577, 0, none⟩ = some (.int .i64 t574) := (blk_cell BK577.out 0).trans rfl
        have hcz83_1 : wc.cell? ⟨gb577, 1, none⟩ = some (.int .i64 t575) := (blk_cell BK577.out 1).trans rfl
        have hfz83_0 := blk_frozen BK577.out 0
        have hfz83_1 := blk_frozen BK577.out 1
        go_wp2
        go_roundg kj55
        case measure => have := HK1.out; have := HJ19.out; have := HJ55.out; omega
        case rel => exact ⟨(x12_1), (x13_1), (wrap64 (x14_1 + 1)), (zq6), (zq6), (zq6), H', ⟨zr30⟩, ⟨zr13⟩, ⟨zr6⟩, ⟨zr27⟩⟩
       rw [if_pos c77] at H
       have c77b0 : decide (t565 < t575) = true := decide_eq_true c77
       clear c77
       have H' := Aside0.mk H
       clear H
       have hnb78 := NB577_560.out
       have hnc78 := NB560_577.out
       have hnb79 := NB577_573.out
       have hnc79 := NB573_577.out
       have hcz80_0 : wc.cell? ⟨gb577, 0, none⟩ = some (.int .i64 t574) := (blk_cell BK577.out 0).trans rfl
       have hcz80_1 : wc.cell? ⟨gb577, 1, none⟩ = some (.int .i64 t575) := (blk_cell BK577.out 1).trans rfl
       have hfz80_0 := blk_frozen BK577.out 0
       have hfz80_1 := blk_frozen BK577.out 1
       go_wp2
       go_roundg kj55
       case measure => have := HK1.out; have := HJ19.out; have := HJ55.out; omega
       case rel => exact ⟨(x12_1), (wrap64 (x13_1 + 1)), (wrap64 (x14_1 + 1)), (zq6), (zq6), (zq6), H', ⟨zr30⟩, ⟨zr13⟩, ⟨zr6⟩, ⟨zr27⟩⟩
end Go.Proofs.YtlmfoblgheepoaaGreatDoor.Pl
end
section
namespace Go.Proofs.YtlmfoblgheepoaaGreatDoor.Pure
open Go.RowKit Go.Proofs.YtlmfoblgheepoaaGreatDoorW.PrintWords Go.Proofs.YtlmfoblgheepoaaGreatDoorW.PrintLast Go.Proofs.YtlmfoblgheepoaaGreatDoorW.PrintMore Go.Proofs.YtlmfoblgheepoaaGreatDoor.Pl
set_option linter.unusedVariables false
set_option linter.unusedSimpArgs false
theorem dg_of {b : UInt8} (h : isD b = true) : dg (b.toNat - 48) = b := by
  have := (isD_iff b).mp h
  apply UInt8.toNat_inj.mp
  rw [dg_toNat]; omega
theorem dg_mod (n : Nat) : dg (n % 10) = dg n := by unfold dg; simp
theorem eightK_val : ∀ (k : Nat) (l : D), l.length = k → digs l = true → eightK k (val l) = l
  | 0, l, h, _ => by
    have : l = [] := List.eq_nil_of_length_eq_zero h
    subst this; rfl
  | k + 1, l, h, hd => by
    obtain ⟨a, b, rfl⟩ : ∃ a b, l = a ++ [b] := by
      have hne : l ≠ [] := by intro e; rw [e] at h; cases h
      exact ⟨l.dropLast, l.getLast hne, (List.dropLast_concat_getLast hne).symm⟩
    have hl : a.length = k := by simpa using h
    have hd' : digs a = true ∧ isD b = true := by rw [digs_append] at hd; simpa [digs] using hd
    have hb := (isD_iff b).mp hd'.2
    rw [eightK, val_append, val_one]
    have e1 : (val a * 10 ^ [b].length + (b.toNat - 48)) / 10 = val a := by simp; omega
    have e2 : dg (val a * 10 ^ [b].length + (b.toNat - 48)) = b := by
      rw [← dg_mod]
      have : (val a * 10 ^ [b].length + (b.toNat - 48)) % 10 = b.toNat - 48 := by simp; omega
      rw [this]
      exact dg_of hd'.2
    rw [e1, e2, eightK_val k a hl hd'.1]
theorem digitVal_of {b : UInt8} (h : isD b = true) : Lib.digitVal b = some (b.toNat - 48) := by
  have := (isD_iff b).mp h
  unfold Lib.digitVal
  rw [if_pos this]
theorem decFrom_val : ∀ (l : D) (a : Nat), digs l = true → Lib.decFrom a l = some (valF a l)
  | [], a, _ => rfl
  | b :: r, a, h => by
    have hb : isD b = true ∧ digs r = true := by simpa [digs] using h
    rw [Lib.decFrom, digitVal_of hb.1, valF_cons]
    exact decFrom_val r _ hb.2
theorem atoi_val (l : D) (h : digs l = true) (h0 : l ≠ []) : Lib.atoi l = some (val l : Int) := by
  cases l with
  | nil => exact absurd rfl h0
  | cons b r =>
    have hb : isD b = true ∧ digs r = true := by simpa [digs] using h
    have hb' := (isD_iff b).mp hb.1
    have n1 : (b == 45) = false := by
      rw [beq_eq_false_iff_ne]; intro e; subst e; simp at hb'
    have n2 : (b == 43) = false := by
      rw [beq_eq_false_iff_ne]; intro e; subst e; simp at hb'
    rw [Lib.atoi, n1, n2]
    simp only [Bool.false_eq_true, if_false]
    rw [Lib.decNat]
    simp only [List.isEmpty_cons, Bool.false_eq_true, if_false]
    rw [decFrom_val _ _ h]
    rfl
theorem atoi_eq (s : ByteArray) (h : s.size ≤ 18) (hd : digs s.data.toList = true) (h0 : 1 ≤ s.size) : strconv_Atoi.f s = some ((val s.data.toList : Int), none) := by
  unfold strconv_Atoi.f
  rw [if_pos h, atoi_val _ hd]
  · rfl
  · intro e; rw [Lib.size_eq, e] at h0; simp at h0
theorem power_from (n : Nat) (hn : n ≤ 8) : ∀ m i : Nat, m + i = n → Ev (fun k => plan_power.l0 k ((10 ^ i : Nat) : Int) (n : Int) (i : Int)) ((10 ^ n : Nat) : Int)
  | 0, i, h => by
    refine Ev.step (fun k => by rw [plan_power.l0]) ?_
    have h1 : ¬ ((i : Int) < n) := by omega
    simp only [h1, if_false]
    have : i = n := by omega
    rw [this]
    exact Ev.now _
  | m + 1, i, h => by
    refine Ev.step (fun k => by rw [plan_power.l0]) ?_
    have h1 : ((i : Int) < n) := by omega
    simp only [h1, if_true, wi i (by omega)]
    have hp := pow10_small (n := i) (by omega)
    have : wrap64 (((10 ^ i : Nat) : Int) * 10) = ((10 ^ (i + 1) : Nat) : Int) := by
      have : (0 : Int) ≤ ((10 ^ i : Nat) : Int) := Int.natCast_nonneg _
      rw [Nat.pow_succ]
      generalize 10 ^ i = q at *
      rw [w64 (by omega) (by omega)]; omega
    rw [this]
    exact power_from n hn m (i + 1) (by omega)
theorem power_ev (n : Nat) (hn : n ≤ 8) : Ev (fun k => plan_power.f k (n : Int)) ((10 ^ n : Nat) : Int) := by
  have := power_from n hn n 0 (by omega)
  simpa [plan_power.f] using this
theorem eightK_split : ∀ (j k m : Nat), eightK (k + j) m = eightK k (m / 10 ^ j) ++ eightK j m
  | 0, k, m => by simp [eightK]
  | j + 1, k, m => by
    rw [← Nat.add_assoc, eightK, eightK_split j k (m / 10), eightK, List.append_assoc, Nat.div_div_eq_div_mul, Nat.pow_succ, Nat.mul_comm 10]
end Go.Proofs.YtlmfoblgheepoaaGreatDoor.Pure
end
section
namespace Go.Proofs.YtlmfoblgheepoaaGreatDoor.Pure
open Go.RowKit Go.Proofs.YtlmfoblgheepoaaGreatDoorW.PrintWords Go.Proofs.YtlmfoblgheepoaaGreatDoorW.PrintLast Go.Proofs.YtlmfoblgheepoaaGreatDoorW.PrintMore Go.Proofs.YtlmfoblgheepoaaGreatDoor.Pl
set_option linter.unusedVariables false
set_option linter.unusedSimpArgs false
theorem range_ev (p : List S29) (hv : vp p = true) (i : Nat) (hi' : i < p.length) (ph : Int) (hp : okPh ph = true) : Ev (fun k => plan_Range.f k p (i : Int) ph) ((lo p[i] : Int), (hi p[i] ph : Int), 0) := by
  have hl := vp_len hv
  unfold plan_Range.f
  refine Ev.bind (valid_ev p (by omega) (vp_small hv)) ?_
  have h1 : decide ((0 : Int) ≤ i) = true := by simp
  have h2 : decide ((i : Int) ≤ wrap64 ((p.length : Int) - 1)) = true := by rw [w64 (by omega) (by omega)]; simp; omega
  simp only [hv, if_true, isPhase_eq, hp, Option.bind_some, isWithin_eq, h1, h2, Bool.and_true, Bool.not_true]
  refine Ev.step (fun k => by rw [plan_Range.j0]) ?_
  have h3 : (0 : Int) ≤ i := by omega
  have h4 : (i : Int) < p.length := by omega
  have hc := vp_one hv (List.getElem_mem hi')
  simp only [Bool.false_eq_true, if_false, h3, h4, if_true, rd29 p i hi']
  generalize p[i] = c at *
  have e0 : c.f0.size = (co c).length := Lib.size_eq _
  have e1 : c.f1.size = (cn c).length := Lib.size_eq _
  have a1 := hc.o1; have a2 := hc.o4; have a3 := hc.n1; have a4 := hc.n5; have a5 := hc.l1; have a6 := hc.l7; have a7 := hc.rm
  have ha : strconv_Atoi.f c.f1 = some ((val (cn c) : Int), none) := atoi_eq c.f1 (by omega) hc.nd (by omega)
  have hw : wrap64 (8 - ((c.f1.size : Nat) : Int)) = ((8 - (cn c).length : Nat) : Int) := by rw [e1, w64 (by omega) (by omega)]; omega
  simp only [ha, Option.bind_some, hw]
  refine Ev.bind (power_ev (8 - (cn c).length) (by omega)) ?_
  have hlo := hi_le hc ph
  have hlo2 : lo c + 10 ^ (8 - (cn c).length) ≤ 100000000 := lo_lt hc
  have e2 : wrap64 ((val (cn c) : Int) * ((10 ^ (8 - (cn c).length) : Nat) : Int)) = (lo c : Int) := by
    have : (val (cn c) : Int) * ((10 ^ (8 - (cn c).length) : Nat) : Int) = (lo c : Int) := by unfold lo; rw [Int.natCast_mul]
    rw [this, wnat _ (Nat.le_trans (Nat.le_trans (Nat.le_add_right _ _) hlo2) (by decide))]
  simp only [e2]
  by_cases hph : ph = 1
  · simp only [hph, if_true, plan_room.f, Option.bind_some, e0]
    have hr : wrap64 (c.f2 - ((co c).length : Int)) = (((c.f2 - ((co c).length : Int)).toNat : Nat) : Int) := by rw [w64 (by omega) (by omega)]; omega
    rw [hr]
    refine Ev.bind (power_ev _ (by omega)) ?_
    have : hi c ph = lo c + 10 ^ (c.f2 - ((co c).length : Int)).toNat := by unfold hi; rw [if_pos hph]
    rw [hph] at this hlo
    have key : (lo c : Int) + ((10 ^ (c.f2 - ((co c).length : Int)).toNat : Nat) : Int) = (hi c 1 : Int) := by rw [this, Int.natCast_add]
    simp only [key]
    rw [wnat _ (Nat.le_trans (Nat.le_trans hlo.2.1 hlo.2.2) (by decide))]
    exact Ev.now _
  · simp only [hph, if_false]
    have : hi c ph = lo c + 10 ^ (8 - (cn c).length) := by unfold hi; rw [if_neg hph]
    have key : (lo c : Int) + ((10 ^ (8 - (cn c).length) : Nat) : Int) = (hi c ph : Int) := by rw [this, Int.natCast_add]
    simp only [key]
    rw [wnat _ (Nat.le_trans (Nat.le_trans hlo.2.1 hlo.2.2) (by decide))]
    exact Ev.now _
end Go.Proofs.YtlmfoblgheepoaaGreatDoor.Pure
end
section
namespace Go.Proofs.YtlmfoblgheepoaaGreatDoor.Pure
open Go.RowKit Go.Proofs.YtlmfoblgheepoaaGreatDoorW.PrintWords Go.Proofs.YtlmfoblgheepoaaGreatDoorW.PrintLast Go.Proofs.YtlmfoblgheepoaaGreatDoorW.PrintMore Go.Proofs.YtlmfoblgheepoaaGreatDoor.Pl
set_option linter.unusedVariables false
set_option linter.unusedSimpArgs false
theorem pre_len {a x y : D} (h : x.length = a.length) : a <+: x ++ y ↔ a = x := by
  constructor
  · rintro ⟨t, ht⟩
    exact (List.append_inj ht h.symm).1
  · rintro rfl; exact List.prefix_append _ _
theorem cn_pre {c : S29} (hc : One c) {m : Nat} (hm : m ≤ 99999999) : cn c <+: eightK 8 m ↔ m / 10 ^ (8 - (cn c).length) = val (cn c) := by
  have h8 : (cn c).length + (8 - (cn c).length) = 8 := by have := hc.n5; omega
  have e : eightK 8 m = eightK (cn c).length (m / 10 ^ (8 - (cn c).length)) ++ eightK (8 - (cn c).length) m := by
    rw [← eightK_split, h8]
  rw [e, pre_len (eightK_length _ _)]
  have hlt : m / 10 ^ (8 - (cn c).length) < 10 ^ (cn c).length := by
    rw [Nat.div_lt_iff_lt_mul (Nat.pow_pos (by decide)), ← Nat.pow_add, h8]
    have : (10 : Nat) ^ 8 = 100000000 := by decide
    omega
  constructor
  · intro h
    have := congrArg val h
    rw [val_eightK, Nat.mod_eq_of_lt hlt] at this
    exact this.symm
  · intro h
    rw [h, eightK_val _ _ rfl hc.nd]
theorem div_iff (m K v : Nat) (hK : 0 < K) : m / K = v ↔ v * K ≤ m ∧ m < v * K + K := by
  constructor
  · rintro rfl
    have := Nat.div_add_mod m K
    have := Nat.mod_lt m hK
    rw [Nat.mul_comm]
    omega
  · rintro ⟨h1, h2⟩
    apply Nat.le_antisymm
    · have : m / K < v + 1 := by rw [Nat.div_lt_iff_lt_mul hK, Nat.add_mul]; omega
      omega
    · rw [Nat.le_div_iff_mul_le hK]; exact h1
theorem in_whole {c : S29} (hc : One c) {m : Nat} (hm : m ≤ 99999999) : (lo c ≤ m ∧ m < hi c 2) ↔ cn c <+: eightK 8 m := by
  rw [cn_pre hc hm, div_iff _ _ _ (Nat.pow_pos (by decide))]
  have e2 : hi c 2 = lo c + 10 ^ (8 - (cn c).length) := by unfold hi; rw [if_neg (by decide)]
  rw [e2]; rfl
theorem z48_eight (z q : Nat) : z48 (eightK z q) = true ↔ q % 10 ^ z = 0 := by
  rw [← val_eightK]
  constructor
  · intro h
    have h1 := z48_rep h
    rw [eightK_length, ← eightK_zero] at h1
    rw [h1, val_eightK]; simp
  · intro h
    have h1 := eightK_val z (eightK z q) (eightK_length z q) (eightK_digs z q)
    rw [h, eightK_zero] at h1
    rw [← h1]; unfold z48; rw [List.all_replicate]; simp
theorem in_old {c : S29} (hc : One c) {m : Nat} (hm : m ≤ 99999999) : (lo c ≤ m ∧ m < hi c 1) ↔ (cn c <+: eightK 8 m ∧ z48 (((eightK 8 m).drop (cn c).length).take (cutOf c - (cn c).length)) = true) := by
  have a1 := hc.o1; have a2 := hc.o4; have a3 := hc.n1; have a4 := hc.n5; have a5 := hc.l1; have a6 := hc.l7; have a7 := hc.rm
  obtain ⟨r, hr⟩ : ∃ r : Nat, (c.f2 - ((co c).length : Int)).toNat = r := ⟨_, rfl⟩
  obtain ⟨z, hz⟩ : ∃ z : Nat, cutOf c - (cn c).length = z := ⟨_, rfl⟩
  have hk : 8 - (cn c).length = z + r := by unfold cutOf at hz; omega
  have h8 : (cn c).length + (z + r) = 8 := by omega
  have hmid : (((eightK 8 m).drop (cn c).length).take z) = eightK z (m / 10 ^ r) := by
    have e : eightK 8 m = eightK (cn c).length (m / 10 ^ (z + r)) ++ eightK (z + r) m := by rw [← eightK_split, h8]
    rw [e, List.drop_append_of_le_length (by rw [eightK_length]; omega), List.drop_of_length_le (by rw [eightK_length]; omega), List.nil_append, eightK_split]
    exact List.take_left' (eightK_length _ _)
  rw [hz, hmid, z48_eight, cn_pre hc hm, hk]
  have e1 : hi c 1 = lo c + 10 ^ r := by unfold hi; rw [if_pos rfl, hr]
  have e0 : lo c = val (cn c) * 10 ^ (z + r) := by unfold lo; rw [hk]
  rw [e1, e0]
  generalize val (cn c) = v
  have hK : (10 : Nat) ^ (z + r) = 10 ^ z * 10 ^ r := Nat.pow_add _ _ _
  have hR : 0 < 10 ^ r := Nat.pow_pos (by decide)
  have hZ : 0 < 10 ^ z := Nat.pow_pos (by decide)
  have d1 : m / 10 ^ (z + r) = m / 10 ^ r / 10 ^ z := by rw [hK, Nat.mul_comm, Nat.div_div_eq_div_mul]
  rw [d1, hK, ← Nat.mul_assoc, ← div_iff m (10 ^ r) (v * 10 ^ z) hR]
  generalize m / 10 ^ r = q
  generalize 10 ^ z = Z at *
  constructor
  · rintro rfl
    exact ⟨Nat.mul_div_cancel _ hZ, Nat.mul_mod_left _ _⟩
  · rintro ⟨h1, h2⟩
    have := Nat.div_add_mod q Z
    rw [h1, h2, Nat.mul_comm] at this
    omega
end Go.Proofs.YtlmfoblgheepoaaGreatDoor.Pure
end
