/- Uq: part 8 of the proof that the law's row holds: the printed walk of the program's functions, the plain law, the row. -/
import Derived.Test.YtlmfoblgheepoaaGreatDoorProg
import Derived.Below
import Derived.Deep.Draws
import Derived.Deep.AppendLies
import Derived.Maps.AppendAt
import Derived.OwnWalk
import Derived.Laws.BytesArg
import Derived.Laws.MakeOwn
import Derived.Laws.OwnMore
import Derived.Deep.OwnRows
import Derived.Tactics
import Derived.Lib.ConvBytes
import Derived.Laws.Slices
import Derived.WalkKit
import Derived.KernelRfl
import Derived.RowKit3
import Derived.Deep.LoopGhost
import Derived.Deep.QuietTactic
import Derived.BigQuiet
import Derived.WideLaws
import Derived.Deep.DeepCutAuto
import Derived.Deep.CutBlock
import Derived.Deep.RegionHeld3
import Derived.Laws.Rows
import Derived.Lib.AppendStr
import Derived.ArgAppend
import Derived.Laws.IdiomCopy
import Derived.OrdersHeld
import Derived.Laws.BitsLemmas
import Derived.RowKit
import Derived.Sort.KeysCollected
import Derived.WalkSpells
import Derived.Test.YtlmfoblgheepoaaGreatDoorQUq0
import Derived.Test.YtlmfoblgheepoaaGreatDoorQUq1
import Derived.Test.YtlmfoblgheepoaaGreatDoorQUq3
import Derived.Test.YtlmfoblgheepoaaGreatDoorQUq4
import Derived.Test.YtlmfoblgheepoaaGreatDoorQUq5
import Derived.Test.YtlmfoblgheepoaaGreatDoorQUq6
namespace Go.Proofs.YtlmfoblgheepoaaGreatDoor.Z
theorem zq0 {p : Prop} (h : p := by first | (go_simp; done) | (go_simp; rfl)) : p := h
theorem zq1 {p : Prop} (h : p := by repeat (first | (with_reducible first | exact HB.out | apply below_alloc | apply pw_below_drewN | apply below_drew1) | exact HB.out)) : p := h
theorem zq2 {p : Prop} (h : p := by rw [hg]; exact (below_size (by repeat (first | (with_reducible first | exact HB.out | apply below_alloc | apply pw_below_drewN | apply below_drew1) | exact HB.out)))) : p := h
theorem zq3 {p : Prop} (h : p := by (try simp only [List.map_toArray, List.map_cons, List.map_nil]); first | done | rfl | (simp only [List.length_drop, List.length_take]; rfl) | (simp (disch := omega) only [wrap64_of]; done) | (simp (disch := omega) only [wrap64_of]; rfl)) : p := h
theorem zq4 {p : Prop} (h : p := by (with_reducible repeat (first | refine blk_drewN ?_ _ | refine blk_drew ?_ | refine blk_alloc ?_ _)); exact BK105.out) : p := h
theorem zq5 {p : Prop} (h : p := by repeat (first | (with_reducible first | exact HB.out | apply below_alloc | apply pw_below_drewN | apply below_drew1 | refine below_set ?_ GE105.out) | exact HB.out)) : p := h
theorem zq6 {p : Prop} (h : p := by first | rfl | (simp; done) | (simp [*]; done)) : p := h
theorem zq7 {p : Prop} (h : p := by (with_reducible repeat (first | refine blk_drewN ?_ _ | refine blk_drew ?_ | refine blk_alloc ?_ _)); exact BK112.out) : p := h
theorem zq8 {p : Prop} (h : p := by repeat (first | (with_reducible first | exact HB.out | apply below_alloc | apply pw_below_drewN | apply below_drew1 | refine below_set ?_ GE112.out) | exact HB.out)) : p := h
theorem zq9 {p : Prop} (h : p := by rw [hg]; exact (below_size (by repeat (first | (with_reducible first | exact HB.out | apply below_alloc | apply pw_below_drewN | apply below_drew1 | refine below_set ?_ GE112.out) | exact HB.out)))) : p := h
theorem zq10 {p : Prop} (h : p := by rw [hg]; exact Nat.ne_of_lt (blk_lt (g := gb112) (o := .cells #[.string a0_0, .string a0_1, .int .i64 a0_2] 29 (0, 0)) (by (with_reducible repeat (first | refine blk_drewN ?_ _ | refine blk_drew ?_ | refine blk_alloc ?_ _)); exact BK112.out))) : p := h
theorem zq11 {p : Prop} (h : p := by rw [hg]; exact Nat.ne_of_gt (blk_lt (g := gb112) (o := .cells #[.string a0_0, .string a0_1, .int .i64 a0_2] 29 (0, 0)) (by (with_reducible repeat (first | refine blk_drewN ?_ _ | refine blk_drew ?_ | refine blk_alloc ?_ _)); exact BK112.out))) : p := h
theorem zq12 {p : Prop} (h : p := by (with_reducible repeat (first | refine blk_drewN ?_ _ | refine blk_drew ?_ | refine blk_alloc ?_ _)); exact BK113.out) : p := h
theorem zq13 {p : Prop} (h : p := by repeat (first | (with_reducible first | exact HB.out | apply below_alloc | apply pw_below_drewN | apply below_drew1 | refine below_set ?_ GE112.out | refine below_set ?_ GE113.out) | exact HB.out)) : p := h
theorem zq14 {p : Prop} (h : p := by first | (with_reducible assumption) | assumption) : p := h
theorem zq15 {p : Prop} (h : p := by repeat (first | (with_reducible first | exact HB.out | apply below_alloc | apply pw_below_drewN | apply below_drew1 | refine below_set ?_ GE119.out) | exact HB.out)) : p := h
theorem zq16 {p : Prop} (h : p := by (with_reducible repeat (first | refine blk_drewN ?_ _ | refine blk_drew ?_ | refine blk_alloc ?_ _)); exact BK119.out) : p := h
theorem zq17 {p : Prop} (h : p := by rw [hg]; exact (below_size (by repeat (first | (with_reducible first | exact HB.out | apply below_alloc | apply pw_below_drewN | apply below_drew1 | refine below_set ?_ GE119.out) | exact HB.out)))) : p := h
theorem zq18 {p : Prop} (h : p := by rw [hg]; exact Nat.ne_of_lt (blk_lt (g := gb119) (o := .cells #[.string ((rd_T29 l0 x11_1).f0), .string ((rd_T29 l0 x11_1).f1), .int .i64 ((rd_T29 l0 x11_1).f2)] 29 (0, 0)) (by (with_reducible repeat (first | refine blk_drewN ?_ _ | refine blk_drew ?_ | refine blk_alloc ?_ _)); exact BK119.out))) : p := h
theorem zq19 {p : Prop} (h : p := by rw [hg]; exact Nat.ne_of_gt (blk_lt (g := gb119) (o := .cells #[.string ((rd_T29 l0 x11_1).f0), .string ((rd_T29 l0 x11_1).f1), .int .i64 ((rd_T29 l0 x11_1).f2)] 29 (0, 0)) (by (with_reducible repeat (first | refine blk_drewN ?_ _ | refine blk_drew ?_ | refine blk_alloc ?_ _)); exact BK119.out))) : p := h
theorem zq20 {p : Prop} (h : p := by (with_reducible repeat (first | refine blk_drewN ?_ _ | refine blk_drew ?_ | refine blk_alloc ?_ _)); refine blk_far ?_ NB119_125.out _; (with_reducible repeat (first | refine blk_drewN ?_ _ | refine blk_drew ?_ | refine blk_alloc ?_ _)); refine blk_far ?_ NB119_125.out _; (with_reducible repeat (first | refine blk_drewN ?_ _ | refine blk_drew ?_ | refine blk_alloc ?_ _)); refine blk_far ?_ NB119_125.out _; (with_reducible repeat (first | refine blk_drewN ?_ _ | refine blk_drew ?_ | refine blk_alloc ?_ _)); exact BK119.out) : p := h
theorem zq21 {p : Prop} (h : p := by (with_reducible repeat (first | refine blk_drewN ?_ _ | refine blk_drew ?_ | refine blk_alloc ?_ _)); refine blk_put (cs := #[.string ((rd_T29 y120 x20_2).f0), .string ((rd_T29 y120 x20_2).f1), .int .i64 0]) ?_ 2 _ rfl; (with_reducible repeat (first | refine blk_drewN ?_ _ | refine blk_drew ?_ | refine blk_alloc ?_ _)); refine blk_put (cs := #[.string ((rd_T29 y120 x20_2).f0), .string (⟨#[]⟩ : ByteArray), .int .i64 0]) ?_ 1 _ rfl; (with_reducible repeat (first | refine blk_drewN ?_ _ | refine blk_drew ?_ | refine blk_alloc ?_ _)); refine blk_put (cs := #[.string (⟨#[]⟩ : ByteArray), .string (⟨#[]⟩ : ByteArray), .int .i64 0]) ?_ 0 _ rfl; (with_reducible repeat (first | refine blk_drewN ?_ _ | refine blk_drew ?_ | refine blk_alloc ?_ _)); exact BK125.out) : p := h
theorem zq22 {p : Prop} (h : p := by repeat (first | (with_reducible first | exact HB.out | apply below_alloc | apply pw_below_drewN | apply below_drew1 | refine below_set ?_ GE119.out | refine below_set ?_ GE125.out) | exact HB.out)) : p := h
theorem zq23 {p : Prop} (h : p := by (with_reducible repeat (first | refine blk_drewN ?_ _ | refine blk_drew ?_ | refine blk_alloc ?_ _)); refine blk_put (cs := #[.string ((rd_T29 l0 x8_1).f0), .string ((rd_T29 l0 x8_1).f1), .int .i64 0]) ?_ 2 _ rfl; (with_reducible repeat (first | refine blk_drewN ?_ _ | refine blk_drew ?_ | refine blk_alloc ?_ _)); refine blk_put (cs := #[.string ((rd_T29 l0 x8_1).f0), .string (⟨#[]⟩ : ByteArray), .int .i64 0]) ?_ 1 _ rfl; (with_reducible repeat (first | refine blk_drewN ?_ _ | refine blk_drew ?_ | refine blk_alloc ?_ _)); refine blk_put (cs := #[.string (⟨#[]⟩ : ByteArray), .string (⟨#[]⟩ : ByteArray), .int .i64 0]) ?_ 0 _ rfl; (with_reducible repeat (first | refine blk_drewN ?_ _ | refine blk_drew ?_ | refine blk_alloc ?_ _)); exact BK128.out) : p := h
theorem zq24 {p : Prop} (h : p := by repeat (first | (with_reducible first | exact HB.out | apply below_alloc | apply pw_below_drewN | apply below_drew1 | refine below_set ?_ GE128.out) | exact HB.out)) : p := h
theorem zq25 {p : Prop} (h : p := by repeat (first | exact (Kd.C_below HR0.out HB.out) | (with_reducible refine Kd.C_alloc ?_ _) | (with_reducible refine Kd.C_drewN ?_ _) | (with_reducible refine Kd.C_drew ?_))) : p := h
theorem zq26 {p : Prop} (h : p := by exact HC0.out) : p := h
theorem zq27 {p : Prop} (h : p := by exact Glb.below HGLB.out (by repeat (first | (with_reducible first | exact HB.out | apply below_alloc | apply pw_below_drewN | apply below_drew1) | exact HB.out))) : p := h
theorem zq28 {p : Prop} (h : p := by (with_reducible repeat (first | refine blk_drewN ?_ _ | refine blk_drew ?_ | refine blk_alloc ?_ _)); refine blk_put (cs := #[.string ((rd_T29 l0 x29_2).f0), .string ((rd_T29 l0 x29_2).f1), .int .i64 0]) ?_ 2 _ rfl; (with_reducible repeat (first | refine blk_drewN ?_ _ | refine blk_drew ?_ | refine blk_alloc ?_ _)); refine blk_put (cs := #[.string ((rd_T29 l0 x29_2).f0), .string (⟨#[]⟩ : ByteArray), .int .i64 0]) ?_ 1 _ rfl; (with_reducible repeat (first | refine blk_drewN ?_ _ | refine blk_drew ?_ | refine blk_alloc ?_ _)); refine blk_put (cs := #[.string (⟨#[]⟩ : ByteArray), .string (⟨#[]⟩ : ByteArray), .int .i64 0]) ?_ 0 _ rfl; (with_reducible repeat (first | refine blk_drewN ?_ _ | refine blk_drew ?_ | refine blk_alloc ?_ _)); exact BK139.out) : p := h
theorem zq29 {p : Prop} (h : p := by repeat (first | (with_reducible first | exact HB.out | apply below_alloc | apply pw_below_drewN | apply below_drew1 | refine below_set ?_ GE139.out) | exact HB.out)) : p := h
theorem zq30 {p : Prop} (h : p := by (with_reducible repeat (first | refine blk_drewN ?_ _ | refine blk_drew ?_ | refine blk_alloc ?_ _)); exact BK139.out) : p := h
theorem zq31 {p : Prop} (h : p := by first | rfl | (simp; done) | (simp; rfl)) : p := h
theorem zq32 {p : Prop} (h : p := by go_simp; rfl) : p := h
theorem zq33 {p : Prop} (h : p := by (with_reducible repeat (first | refine blk_drewN ?_ _ | refine blk_drew ?_ | refine blk_alloc ?_ _)); exact BK143.out) : p := h
theorem zq34 {p : Prop} (h : p := by repeat (first | (with_reducible first | exact HB.out | apply below_alloc | apply pw_below_drewN | apply below_drew1 | refine below_set ?_ GE143.out) | exact HB.out)) : p := h
theorem zq35 {p : Prop} (h : p := by rw [hg]; exact (below_size (by repeat (first | (with_reducible first | exact HB.out | apply below_alloc | apply pw_below_drewN | apply below_drew1 | refine below_set ?_ GE143.out) | exact HB.out)))) : p := h
theorem zq36 {p : Prop} (h : p := by rw [hg]; exact Nat.ne_of_lt (blk_lt (g := gb143) (o := .cells #[.int .i64 0, .int .i64 0] 40 (0, 0)) (by (with_reducible repeat (first | refine blk_drewN ?_ _ | refine blk_drew ?_ | refine blk_alloc ?_ _)); exact BK143.out))) : p := h
theorem zq37 {p : Prop} (h : p := by rw [hg]; exact Nat.ne_of_gt (blk_lt (g := gb143) (o := .cells #[.int .i64 0, .int .i64 0] 40 (0, 0)) (by (with_reducible repeat (first | refine blk_drewN ?_ _ | refine blk_drew ?_ | refine blk_alloc ?_ _)); exact BK143.out))) : p := h
theorem zq38 {p : Prop} (h : p := by (with_reducible repeat (first | refine blk_drewN ?_ _ | refine blk_drew ?_ | refine blk_alloc ?_ _)); refine blk_far ?_ NB143_148.out _; (with_reducible repeat (first | refine blk_drewN ?_ _ | refine blk_drew ?_ | refine blk_alloc ?_ _)); refine blk_far ?_ NB143_148.out _; (with_reducible repeat (first | refine blk_drewN ?_ _ | refine blk_drew ?_ | refine blk_alloc ?_ _)); refine blk_far ?_ NB143_148.out _; (with_reducible repeat (first | refine blk_drewN ?_ _ | refine blk_drew ?_ | refine blk_alloc ?_ _)); exact BK143.out) : p := h
theorem zq39 {p : Prop} (h : p := by (with_reducible repeat (first | refine blk_drewN ?_ _ | refine blk_drew ?_ | refine blk_alloc ?_ _)); refine blk_put (cs := #[.string ((rd_T29 l0 a1).f0), .string ((rd_T29 l0 a1).f1), .int .i64 0]) ?_ 2 _ rfl; (with_reducible repeat (first | refine blk_drewN ?_ _ | refine blk_drew ?_ | refine blk_alloc ?_ _)); refine blk_put (cs := #[.string ((rd_T29 l0 a1).f0), .string (⟨#[]⟩ : ByteArray), .int .i64 0]) ?_ 1 _ rfl; (with_reducible repeat (first | refine blk_drewN ?_ _ | refine blk_drew ?_ | refine blk_alloc ?_ _)); refine blk_put (cs := #[.string (⟨#[]⟩ : ByteArray), .string (⟨#[]⟩ : ByteArray), .int .i64 0]) ?_ 0 _ rfl; (with_reducible repeat (first | refine blk_drewN ?_ _ | refine blk_drew ?_ | refine blk_alloc ?_ _)); exact BK148.out) : p := h
theorem zq40 {p : Prop} (h : p := by repeat (first | (with_reducible first | exact HB.out | apply below_alloc | apply pw_below_drewN | apply below_drew1 | refine below_set ?_ GE143.out | refine below_set ?_ GE148.out) | exact HB.out)) : p := h
theorem zq41 {p : Prop} (h : p := by (with_reducible repeat (first | refine blk_drewN ?_ _ | refine blk_drew ?_ | refine blk_alloc ?_ _)); exact BK148.out) : p := h
theorem zq42 {p : Prop} (h : p := by (with_reducible repeat (first | refine blk_drewN ?_ _ | refine blk_drew ?_ | refine blk_alloc ?_ _)); refine blk_put (cs := #[.int .i64 (wrap64 (t149 * t151)), .int .i64 0]) ?_ 1 _ rfl; (with_reducible repeat (first | refine blk_drewN ?_ _ | refine blk_drew ?_ | refine blk_alloc ?_ _)); refine blk_put (cs := #[.int .i64 0, .int .i64 0]) ?_ 0 _ rfl; (with_reducible repeat (first | refine blk_drewN ?_ _ | refine blk_drew ?_ | refine blk_alloc ?_ _)); exact BK143.out) : p := h
theorem zq43 {p : Prop} (h : p := by repeat (first | exact (Kd.R_reads' HO159.out).2.2 | (with_reducible refine Kd.C_alloc ?_ _) | (with_reducible refine Kd.C_drewN ?_ _) | (with_reducible refine Kd.C_drew ?_))) : p := h
theorem zq44 {p : Prop} (h : p := by (with_reducible repeat (first | apply Kd.R_alloc | apply Kd.R_drewN | apply Kd.R_drew)); exact HO159.out) : p := h
theorem zq45 {p : Prop} (h : p := by repeat (first | exact (Kd.R_reads' HO168.out).2.2 | (with_reducible refine Kd.C_alloc ?_ _) | (with_reducible refine Kd.C_drewN ?_ _) | (with_reducible refine Kd.C_drew ?_))) : p := h
theorem zq46 {p : Prop} (h : p := by (with_reducible repeat (first | apply Kd.R_alloc | apply Kd.R_drewN | apply Kd.R_drew)); exact HO168.out) : p := h
theorem zq47 {p : Prop} (h : p := by repeat (first | exact (Kd.R_reads' HO177.out).2.2 | (with_reducible refine Kd.C_alloc ?_ _) | (with_reducible refine Kd.C_drewN ?_ _) | (with_reducible refine Kd.C_drew ?_))) : p := h
theorem zq48 {p : Prop} (h : p := by exact (Kd.R_reads' HO177.out).2.1) : p := h
theorem zq49 {p : Prop} (h : p := by (with_reducible repeat (first | apply Kd.R_alloc | apply Kd.R_drewN | apply Kd.R_drew)); exact HO177.out) : p := h
theorem zq50 {p : Prop} (h : p := by (with_reducible repeat (first | apply Kd.R_alloc | apply Kd.R_drewN | apply Kd.R_drew)); exact (Kd.R_mono (Kd.R_far (p := ⟨gb187, 1, none⟩) (Kd.R_far (p := ⟨gb187, 0, none⟩) (Kd.R_types HO177.out BK187.out (by decide)) (fun _ hk => hk.2) (.int .i64 t184)) (fun _ hk => hk.2) (.int .i64 t185)) (fun _ h_ => h_.1))) : p := h
theorem zq51 {p : Prop} (h : p := by repeat (first | (with_reducible first | exact HB.out | apply below_alloc | apply pw_below_drewN | apply below_drew1 | refine below_set ?_ GE187.out) | exact HB.out)) : p := h
theorem zq52 {p : Prop} (h : p := by (with_reducible repeat (first | refine blk_drewN ?_ _ | refine blk_drew ?_ | refine blk_alloc ?_ _)); exact BK187.out) : p := h
theorem zq53 {p : Prop} (h : p := by rw [hg]; exact (below_size (by repeat (first | (with_reducible first | exact HB.out | apply below_alloc | apply pw_below_drewN | apply below_drew1 | refine below_set ?_ GE187.out) | exact HB.out)))) : p := h
theorem zq54 {p : Prop} (h : p := by rw [hg]; exact Nat.ne_of_lt (blk_lt (g := gb187) (o := .cells #[.int .i64 t184, .int .i64 t185] 40 (0, 0)) (by (with_reducible repeat (first | refine blk_drewN ?_ _ | refine blk_drew ?_ | refine blk_alloc ?_ _)); exact BK187.out))) : p := h
theorem zq55 {p : Prop} (h : p := by rw [hg]; exact Nat.ne_of_gt (blk_lt (g := gb187) (o := .cells #[.int .i64 t184, .int .i64 t185] 40 (0, 0)) (by (with_reducible repeat (first | refine blk_drewN ?_ _ | refine blk_drew ?_ | refine blk_alloc ?_ _)); exact BK187.out))) : p := h
theorem zq56 {p : Prop} (h : p := by (with_reducible repeat (first | apply Kd.R_alloc | apply Kd.R_drewN | apply Kd.R_drew)); exact (Kd.R_mono (Kd.R_far (p := ⟨gb191, 1, none⟩) (Kd.R_far (p := ⟨gb191, 0, none⟩) (Kd.R_types HO177.out BK191.out (by decide)) (fun _ hk => hk.2) (.int .i64 t188)) (fun _ hk => hk.2) (.int .i64 t189)) (fun _ h_ => h_.1))) : p := h
theorem zq57 {p : Prop} (h : p := by repeat (first | (with_reducible first | exact HB.out | apply below_alloc | apply pw_below_drewN | apply below_drew1 | refine below_set ?_ GE187.out | refine below_set ?_ GE191.out) | exact HB.out)) : p := h
theorem zq58 {p : Prop} (h : p := by (with_reducible repeat (first | refine blk_drewN ?_ _ | refine blk_drew ?_ | refine blk_alloc ?_ _)); exact BK191.out) : p := h
theorem zq59 {p : Prop} (h : p := by rw [hg]; exact (below_size (by repeat (first | (with_reducible first | exact HB.out | apply below_alloc | apply pw_below_drewN | apply below_drew1 | refine below_set ?_ GE187.out | refine below_set ?_ GE191.out) | exact HB.out)))) : p := h
theorem zq60 {p : Prop} (h : p := by rw [hg]; exact Nat.ne_of_lt (blk_lt (g := gb191) (o := .cells #[.int .i64 t188, .int .i64 t189] 40 (0, 0)) (by (with_reducible repeat (first | refine blk_drewN ?_ _ | refine blk_drew ?_ | refine blk_alloc ?_ _)); exact BK191.out))) : p := h
theorem zq61 {p : Prop} (h : p := by rw [hg]; exact Nat.ne_of_gt (blk_lt (g := gb191) (o := .cells #[.int .i64 t188, .int .i64 t189] 40 (0, 0)) (by (with_reducible repeat (first | refine blk_drewN ?_ _ | refine blk_drew ?_ | refine blk_alloc ?_ _)); exact BK191.out))) : p := h
theorem zq62 {p : Prop} (h : p := by (with_reducible repeat (first | apply Kd.R_alloc | apply Kd.R_drewN | apply Kd.R_drew)); exact (Kd.R_mono (Kd.R_far (p := ⟨gb195, 1, none⟩) (Kd.R_far (p := ⟨gb195, 0, none⟩) (Kd.R_types HO177.out BK195.out (by decide)) (fun _ hk => hk.2) (.int .i64 t192)) (fun _ hk => hk.2) (.int .i64 t193)) (fun _ h_ => h_.1))) : p := h
theorem zq63 {p : Prop} (h : p := by repeat (first | (with_reducible first | exact HB.out | apply below_alloc | apply pw_below_drewN | apply below_drew1 | refine below_set ?_ GE187.out | refine below_set ?_ GE191.out | refine below_set ?_ GE195.out) | exact HB.out)) : p := h
theorem zq64 {p : Prop} (h : p := by (with_reducible repeat (first | refine blk_drewN ?_ _ | refine blk_drew ?_ | refine blk_alloc ?_ _)); exact BK195.out) : p := h
theorem zq65 {p : Prop} (h : p := by rw [hg]; exact (below_size (by repeat (first | (with_reducible first | exact HB.out | apply below_alloc | apply pw_below_drewN | apply below_drew1 | refine below_set ?_ GE187.out | refine below_set ?_ GE191.out | refine below_set ?_ GE195.out) | exact HB.out)))) : p := h
theorem zq66 {p : Prop} (h : p := by (with_reducible repeat (first | apply Kd.R_alloc | apply Kd.R_drewN | apply Kd.R_drew)); exact HO_1.out) : p := h
theorem zq67 {p : Prop} (h : p := by (with_reducible repeat (first | refine blk_drewN ?_ _ | refine blk_drew ?_ | refine blk_alloc ?_ _)); exact BK199.out) : p := h
theorem zq68 {p : Prop} (h : p := by repeat (first | (with_reducible first | exact HB.out | apply below_alloc | apply pw_below_drewN | apply below_drew1 | refine below_set ?_ GE187.out | refine below_set ?_ GE191.out | refine below_set ?_ GE195.out | refine below_set ?_ GE199.out) | exact HB.out)) : p := h
theorem zq69 {p : Prop} (h : p := by repeat (first | exact (Kd.R_reads' HO_1.out).2.2 | (with_reducible refine Kd.C_alloc ?_ _) | (with_reducible refine Kd.C_drewN ?_ _) | (with_reducible refine Kd.C_drew ?_))) : p := h
theorem zq70 {p : Prop} (h : p := by exact (Kd.R_reads' HO_1.out).2.1) : p := h
theorem zq71 {p : Prop} (h : p := by (with_reducible repeat (first | refine blk_drewN ?_ _ | refine blk_drew ?_ | refine blk_alloc ?_ _)); exact BK241.out) : p := h
theorem zq72 {p : Prop} (h : p := by repeat (first | (with_reducible first | exact HB.out | apply below_alloc | apply pw_below_drewN | apply below_drew1 | refine below_set ?_ GE241.out) | exact HB.out)) : p := h
theorem zq73 {p : Prop} (h : p := by rw [hg]; exact (below_size (by repeat (first | (with_reducible first | exact HB.out | apply below_alloc | apply pw_below_drewN | apply below_drew1 | refine below_set ?_ GE241.out) | exact HB.out)))) : p := h
theorem zq74 {p : Prop} (h : p := by rw [hg]; exact Nat.ne_of_lt (blk_lt (g := gb241) (o := .cells #[.int .i64 a0_0, .int .i64 a0_1, .int .i64 a0_2] 23 (0, 0)) (by (with_reducible repeat (first | refine blk_drewN ?_ _ | refine blk_drew ?_ | refine blk_alloc ?_ _)); exact BK241.out))) : p := h
theorem zq75 {p : Prop} (h : p := by rw [hg]; exact Nat.ne_of_gt (blk_lt (g := gb241) (o := .cells #[.int .i64 a0_0, .int .i64 a0_1, .int .i64 a0_2] 23 (0, 0)) (by (with_reducible repeat (first | refine blk_drewN ?_ _ | refine blk_drew ?_ | refine blk_alloc ?_ _)); exact BK241.out))) : p := h
theorem zq76 {p : Prop} (h : p := by first | (simp only [putAll, Act.put, List.setIfInBounds_toArray, List.set_cons_zero, List.set_cons_succ]; done) | (simp only [putAll, Act.put, List.setIfInBounds_toArray, List.set_cons_zero, List.set_cons_succ]; rfl)) : p := h
theorem zq77 {p : Prop} (h : p := by (with_reducible repeat (first | refine blk_drewN ?_ _ | refine blk_drew ?_ | refine blk_alloc ?_ _)); exact BK242.out) : p := h
theorem zq78 {p : Prop} (h : p := by repeat (first | (with_reducible first | exact HB.out | apply below_alloc | apply pw_below_drewN | apply below_drew1 | refine below_set ?_ GE241.out | refine below_set ?_ GE242.out) | exact HB.out)) : p := h
theorem zq79 {p : Prop} (h : p := by rw [hg]; exact (below_size (by repeat (first | (with_reducible first | exact HB.out | apply below_alloc | apply pw_below_drewN | apply below_drew1 | refine below_set ?_ GE241.out | refine below_set ?_ GE242.out) | exact HB.out)))) : p := h
theorem zq80 {p : Prop} (h : p := by rw [hg]; exact Nat.ne_of_lt (blk_lt (g := gb242) (o := .cells #[.string (⟨#[]⟩ : ByteArray), .string (⟨#[]⟩ : ByteArray), .int .i64 0] 29 (0, 0)) (by (with_reducible repeat (first | refine blk_drewN ?_ _ | refine blk_drew ?_ | refine blk_alloc ?_ _)); exact BK242.out))) : p := h
theorem zq81 {p : Prop} (h : p := by rw [hg]; exact Nat.ne_of_gt (blk_lt (g := gb242) (o := .cells #[.string (⟨#[]⟩ : ByteArray), .string (⟨#[]⟩ : ByteArray), .int .i64 0] 29 (0, 0)) (by (with_reducible repeat (first | refine blk_drewN ?_ _ | refine blk_drew ?_ | refine blk_alloc ?_ _)); exact BK242.out))) : p := h
theorem zq82 {p : Prop} (h : p := by (with_reducible repeat (first | refine blk_drewN ?_ _ | refine blk_drew ?_ | refine blk_alloc ?_ _)); exact BK249.out) : p := h
theorem zq83 {p : Prop} (h : p := by repeat (first | (with_reducible first | exact HB.out | apply below_alloc | apply pw_below_drewN | apply below_drew1 | refine below_set ?_ GE241.out | refine below_set ?_ GE242.out | refine below_set ?_ GE249.out) | exact HB.out)) : p := h
theorem zq84 {p : Prop} (h : p := by (with_reducible repeat (first | apply Kd.R_alloc | apply Kd.R_drewN | apply Kd.R_drew)); exact HO_3.out) : p := h
theorem zq85 {p : Prop} (h : p := by repeat (first | exact (Kd.R_reads' HO_3.out).2.2 | (with_reducible refine Kd.C_alloc ?_ _) | (with_reducible refine Kd.C_drewN ?_ _) | (with_reducible refine Kd.C_drew ?_))) : p := h
theorem zq86 {p : Prop} (h : p := by exact (by repeat (first | (with_reducible first | exact HB.out | apply below_alloc | apply pw_below_drewN | apply below_drew1) | exact HB.out))) : p := h
theorem zq87 {p : Prop} (h : p := by exact (fun k_ hk => Kd.fresh' (Kd.R_lt (by (with_reducible repeat (first | apply Kd.R_alloc | apply Kd.R_drewN | apply Kd.R_drew)); exact HO_3.out)) k_ hk)) : p := h
theorem zq88 {p : Prop} (h : p := by exact (by (with_reducible repeat (first | apply Kd.R_alloc | apply Kd.R_drewN | apply Kd.R_drew)); exact Kd.R_mono HO253.out (fun _ hk => hk.2))) : p := h
theorem zq90 {p : Prop} (h : p := by exact (below_size (by repeat (first | (with_reducible first | exact HB.out | apply below_alloc | apply pw_below_drewN | apply below_drew1) | exact HB.out)))) : p := h
theorem zq91 {p : Prop} (h : p := by (with_reducible repeat (first | apply Kd.R_alloc | apply Kd.R_drewN | apply Kd.R_drew)); exact HO256.out) : p := h
theorem zq92 {p : Prop} (h : p := by exact (by (with_reducible repeat (first | apply Kd.R_alloc | apply Kd.R_drewN | apply Kd.R_drew)); exact HO256.out)) : p := h
theorem zq93 {p : Prop} (h : p := by repeat (first | exact (Kd.R_reads' HO263.out).2.2 | (with_reducible refine Kd.C_alloc ?_ _) | (with_reducible refine Kd.C_drewN ?_ _) | (with_reducible refine Kd.C_drew ?_))) : p := h
theorem zq94 {p : Prop} (h : p := by (with_reducible repeat (first | apply Kd.R_alloc | apply Kd.R_drewN | apply Kd.R_drew)); exact HO263.out) : p := h
theorem zq95 {p : Prop} (h : p := by (with_reducible repeat (first | refine blk_drewN ?_ _ | refine blk_drew ?_ | refine blk_alloc ?_ _)); exact BK266.out) : p := h
theorem zq96 {p : Prop} (h : p := by repeat (first | (with_reducible first | exact HB.out | apply below_alloc | apply pw_below_drewN | apply below_drew1 | refine below_set ?_ GE266.out) | exact HB.out)) : p := h
theorem zq97 {p : Prop} (h : p := by (with_reducible repeat (first | refine blk_drewN ?_ _ | refine blk_drew ?_ | refine blk_alloc ?_ _)); refine blk_put (cs := #[.int .i64 x8_2, .int .i64 0]) ?_ 1 _ rfl; (with_reducible repeat (first | refine blk_drewN ?_ _ | refine blk_drew ?_ | refine blk_alloc ?_ _)); refine blk_put (cs := #[.int .i64 0, .int .i64 0]) ?_ 0 _ rfl; (with_reducible repeat (first | refine blk_drewN ?_ _ | refine blk_drew ?_ | refine blk_alloc ?_ _)); exact BK266.out) : p := h
theorem zq98 {p : Prop} (h : p := by repeat (first | exact (Kd.C_below HR0.out (by repeat (first | (with_reducible first | exact HB.out | apply below_alloc | apply pw_below_drewN | apply below_drew1) | exact HB.out))) | (with_reducible refine Kd.C_alloc ?_ _) | (with_reducible refine Kd.C_drewN ?_ _) | (with_reducible refine Kd.C_drew ?_))) : p := h
theorem zq99 {p : Prop} (h : p := by (with_reducible repeat (first | refine blk_drewN ?_ _ | refine blk_drew ?_ | refine blk_alloc ?_ _)); exact BK431.out) : p := h
theorem zq100 {p : Prop} (h : p := by repeat (first | (with_reducible first | exact HB.out | apply below_alloc | apply pw_below_drewN | apply below_drew1 | refine below_set ?_ GE431.out) | exact HB.out)) : p := h
theorem zq101 {p : Prop} (h : p := by rw [hg]; exact (below_size (by repeat (first | (with_reducible first | exact HB.out | apply below_alloc | apply pw_below_drewN | apply below_drew1 | refine below_set ?_ GE431.out) | exact HB.out)))) : p := h
theorem zq102 {p : Prop} (h : p := by rw [hg]; exact Nat.ne_of_lt (blk_lt (g := gb431) (o := .cells #[.int .i64 a1_0, .int .i64 a1_1] 50 (0, 0)) (by (with_reducible repeat (first | refine blk_drewN ?_ _ | refine blk_drew ?_ | refine blk_alloc ?_ _)); exact BK431.out))) : p := h
theorem zq103 {p : Prop} (h : p := by rw [hg]; exact Nat.ne_of_gt (blk_lt (g := gb431) (o := .cells #[.int .i64 a1_0, .int .i64 a1_1] 50 (0, 0)) (by (with_reducible repeat (first | refine blk_drewN ?_ _ | refine blk_drew ?_ | refine blk_alloc ?_ _)); exact BK431.out))) : p := h
theorem zq104 {p : Prop} (h : p := by exact Glb.below HGLB.out (by repeat (first | (with_reducible first | exact HB.out | apply below_alloc | apply pw_below_drewN | apply below_drew1 | refine below_set ?_ GE431.out | refine below_set ?_ GE432.out) | exact HB.out))) : p := h
theorem zq105 {p : Prop} (h : p := by repeat (first | (with_reducible first | exact HB.out | apply below_alloc | apply pw_below_drewN | apply below_drew1 | refine below_set ?_ GE431.out | refine below_set ?_ GE432.out) | exact HB.out)) : p := h
theorem zq106 {p : Prop} (h : p := by (with_reducible repeat (first | refine blk_drewN ?_ _ | refine blk_drew ?_ | refine blk_alloc ?_ _)); exact BK432.out) : p := h
theorem zq107 {p : Prop} (h : p := by repeat (first | exact (Kd.R_reads' HO436.out).2.2 | (with_reducible refine Kd.C_alloc ?_ _) | (with_reducible refine Kd.C_drewN ?_ _) | (with_reducible refine Kd.C_drew ?_))) : p := h
theorem zq108 {p : Prop} (h : p := by exact (Kd.R_reads' HO436.out).2.1) : p := h
theorem zq109 {p : Prop} (h : p := by (with_reducible repeat (first | apply Kd.R_alloc | apply Kd.R_drewN | apply Kd.R_drew)); exact HO436.out) : p := h
end Go.Proofs.YtlmfoblgheepoaaGreatDoor.Z
section
open Go.Proofs.YtlmfoblgheepoaaGreatDoor.Z
namespace Go.Proofs.YtlmfoblgheepoaaGreatDoor.Pl
open Go.RowKit Go.Proofs.YtlmfoblgheepoaaGreatDoorW.PrintWords Go.Proofs.YtlmfoblgheepoaaGreatDoorW.PrintLast Go.Proofs.YtlmfoblgheepoaaGreatDoorW.PrintMore
attribute [local go_sem] max2_int min2_int max_two min_two max_three min_three max_four min_four
set_option linter.unusedVariables false
set_option linter.unusedSimpArgs false
def errW : Option Int → Value
 | none => .nilIface
 | some c => .iface 0 (.int .i64 c)
theorem errW_none : errW none = .nilIface := rfl
theorem errW_some (c : Int) : errW (some c) = .iface 0 (.int .i64 c) := rfl
theorem info29 : (Tryz.prog.info? 29).map (fun i => (i.zero, i.size, i.bytes)) = some (some (.agg #[(.string ⟨#[]⟩), (.string ⟨#[]⟩), (.int .i64 0)]), 3, 40) := by kernel_rfl
structure S29 where
 f0 : ByteArray
 f1 : ByteArray
 f2 : Int
def z29 : S29 := ⟨(⟨#[]⟩ : ByteArray), (⟨#[]⟩ : ByteArray), (0 : Int)⟩
def k29 : Kd S29 := Kd.iso (Kd.pair Kd.string (Kd.pair Kd.string (Kd.int .i64))) (fun x : S29 => (x.f0, x.f1, x.f2))
theorem k29_open {w : World} {x : S29} {cs : List Value} (h : k29.K w x cs) : cs = [.string x.f0, .string x.f1, .int .i64 x.f2] := by
 obtain ⟨_, _, rfl, rfl, ⟨_, _, rfl, rfl, rfl⟩⟩ := h
 exact rfl
theorem k29_mkM (w : World) (base : Nat) (ok : Nat → Prop) (x : S29)  : k29.M w base ok x [.string x.f0, .string x.f1, .int .i64 x.f2] := ⟨[.string x.f0], [.string x.f1, .int .i64 x.f2], rfl, rfl, ⟨[.string x.f1], [.int .i64 x.f2], rfl, rfl, rfl⟩⟩
def rd_T29 (xs : List S29) (i : Int) : S29 := xs.getD i.toNat z29
theorem at_T29 {w : World} {A : Option Addr} {n : Nat} {xs : List S29} (h : Kd.C k29 w A n xs) (i : Int) (h0 : 0 ≤ i) (h1 : i < n) : ∃ ad , A = some ad ∧ w.cell? (ad.add (i.toNat * 3)) = some (.string (rd_T29 xs i).f0) ∧ w.cell? ⟨(ad.add (i.toNat * 3)).block, (ad.add (i.toNat * 3)).off + 1, none⟩ = some (.string (rd_T29 xs i).f1) ∧ w.cell? ⟨(ad.add (i.toNat * 3)).block, (ad.add (i.toNat * 3)).off + 2, none⟩ = some (.int .i64 (rd_T29 xs i).f2) := by
 obtain ⟨ad, c, e, _, hK, hc0⟩ := Kd.C_get h z29 i h0 h1
 have hc : ∀ j u, c[j]? = some u → w.cell? (ad.add (i.toNat * 3 + j)) = some u := hc0
 obtain rfl := k29_open hK
 exact ⟨ad, e, hc 0 _ rfl, by rw [← add_field _ _ 1 (by omega)]; exact hc 1 _ rfl, by rw [← add_field _ _ 2 (by omega)]; exact hc 2 _ rfl⟩
structure S23 where
 f0 : Int
 f1 : Int
 f2 : Int
def z23 : S23 := ⟨(0 : Int), (0 : Int), (0 : Int)⟩
def k23 : Kd S23 := Kd.iso (Kd.pair (Kd.int .i64) (Kd.pair (Kd.int .i64) (Kd.int .i64))) (fun x : S23 => (x.f0, x.f1, x.f2))
theorem k23_open {w : World} {x : S23} {cs : List Value} (h : k23.K w x cs) : cs = [.int .i64 x.f0, .int .i64 x.f1, .int .i64 x.f2] := by
 obtain ⟨_, _, rfl, rfl, ⟨_, _, rfl, rfl, rfl⟩⟩ := h
 exact rfl
theorem k23_mk (w : World) (x : S23)  : k23.K w x [.int .i64 x.f0, .int .i64 x.f1, .int .i64 x.f2] := ⟨[.int .i64 x.f0], [.int .i64 x.f1, .int .i64 x.f2], rfl, rfl, ⟨[.int .i64 x.f1], [.int .i64 x.f2], rfl, rfl, rfl⟩⟩
def rd_T23 (xs : List S23) (i : Int) : S23 := xs.getD i.toNat z23
theorem at_T23 {w : World} {A : Option Addr} {n : Nat} {xs : List S23} (h : Kd.C k23 w A n xs) (i : Int) (h0 : 0 ≤ i) (h1 : i < n) : ∃ ad , A = some ad ∧ w.cell? (ad.add (i.toNat * 3)) = some (.int .i64 (rd_T23 xs i).f0) ∧ w.cell? ⟨(ad.add (i.toNat * 3)).block, (ad.add (i.toNat * 3)).off + 1, none⟩ = some (.int .i64 (rd_T23 xs i).f1) ∧ w.cell? ⟨(ad.add (i.toNat * 3)).block, (ad.add (i.toNat * 3)).off + 2, none⟩ = some (.int .i64 (rd_T23 xs i).f2) := by
 obtain ⟨ad, c, e, _, hK, hc0⟩ := Kd.C_get h z23 i h0 h1
 have hc : ∀ j u, c[j]? = some u → w.cell? (ad.add (i.toNat * 3 + j)) = some u := hc0
 obtain rfl := k23_open hK
 exact ⟨ad, e, hc 0 _ rfl, by rw [← add_field _ _ 1 (by omega)]; exact hc 1 _ rfl, by rw [← add_field _ _ 2 (by omega)]; exact hc 2 _ rfl⟩
def Glb (w : World) : Prop := Lib.TabIs Tryz.prog w "internal/strconv.uint64pow10" .u64 Lib.pow10Tab
theorem Glb.below {w w' : World} (h : Glb w) (hb : Below w.heap.size w w') : Glb w' := by
 unfold Glb Lib.TabIs World.var? at h ⊢
 cases hg : Tryz.prog.globalNamed "internal/strconv.uint64pow10" with
 | none => rw [hg] at h; simp at h
 | some g =>
  rw [hg] at h
  simp only [Option.bind_some] at h ⊢
  have hlt : g < w.heap.size := by
   rcases Nat.lt_or_ge g w.heap.size with h' | h'
   ·exact h'
   ·rw [Array.getElem?_eq_none h'] at h; cases h
  rw [hb.block g hlt]
  exact h
theorem below_growN (w : World) (k : Nat) (os : Array Obj) : Below w.heap.size w (Go.Sort.grow (w.drewN k) os) :=
 ⟨rfl, rfl, rfl, by simp [Go.Sort.grow], fun i hi => by simp [Go.Sort.grow, Array.getElem?_append, hi]⟩
theorem below_bytesW (w : World) (e : TypeId) (s : ByteArray) : Below w.heap.size w (Lib.bytesWorld w e s) := bytes_below (Below.refl _ _) (Nat.le_refl _) e s
theorem wrap64_of {n : Int} (h0 : -9223372036854775808 ≤ n) (h1 : n ≤ 9223372036854775807) : wrap64 n = n := by
 unfold wrap64
 omega
end Go.Proofs.YtlmfoblgheepoaaGreatDoor.Pl
end
section
open Go.Proofs.YtlmfoblgheepoaaGreatDoor.Z
namespace Go.Proofs.YtlmfoblgheepoaaGreatDoor.Pl
open Go.RowKit Go.Proofs.YtlmfoblgheepoaaGreatDoorW.PrintWords Go.Proofs.YtlmfoblgheepoaaGreatDoorW.PrintLast Go.Proofs.YtlmfoblgheepoaaGreatDoorW.PrintMore
attribute [local go_sem] max2_int min2_int max_two min_two max_three min_three max_four min_four
set_option linter.unusedVariables false
set_option linter.unusedSimpArgs false
def plan_isWithin.f (a0 : Int) (a1 : Int) (a2 : Int) : Option (Bool) := if a1 ≤ a0 then (some (decide (a0 ≤ a2))) else (some false)
set_option maxHeartbeats 8000000 in
set_option maxRecDepth 100000 in
theorem plan_isWithin.calls (a0 : Int) (a1 : Int) (a2 : Int) (r : Bool) (w : World) (h : plan_isWithin.f a0 a1 a2 = some r) :
 Calls Tryz.prog 36 #[.int .i64 a0, .int .i64 a1, .int .i64 a2] w fun e w' => e = .returned (.bool r) ∧ Drawn0 w w' := by
 have H : (if a1 ≤ a0 then (some (decide (a0 ≤ a2))) else (some false)) = some r := h
 clear h
 by_cases c4 : a1 ≤ a0
 ·rw [if_pos c4] at H
  have c4b0 : decide (a1 ≤ a0) = true := decide_eq_true c4
  clear c4
  obtain rfl := Option.some.inj H
  go_enter Tryz.func36, Tryz.ntmps36
  go_wp2
  go_ret
  exact ⟨by first | rfl | (simp; done) | (simp [*]; done), by repeat (first | exact Drawn0.refl _ | apply Drawn0.step)⟩
 ·rw [if_neg c4] at H
  have c4b0 : decide (a1 ≤ a0) = false := decide_eq_false c4
  clear c4
  obtain rfl := Option.some.inj H
  go_enter Tryz.func36, Tryz.ntmps36
  go_wp2
  go_ret
  exact ⟨by first | rfl | (simp; done) | (simp [*]; done), by repeat (first | exact Drawn0.refl _ | apply Drawn0.step)⟩
def plan_room.f (a0_0 : ByteArray) (a0_1 : ByteArray) (a0_2 : Int) : Option (Int) := some (wrap64 (a0_2 - (a0_0.size : Int)))
set_option maxHeartbeats 8000000 in
set_option maxRecDepth 100000 in
theorem plan_room.calls (a0_0 : ByteArray) (a0_1 : ByteArray) (a0_2 : Int) (r : Int) (w : World) (h : plan_room.f a0_0 a0_1 a0_2 = some r) :
 Calls Tryz.prog 39 #[.agg #[.string a0_0, .string a0_1, .int .i64 a0_2]] w fun e w' => e = .returned (.int .i64 r) ∧ Below w.heap.size w w' := by
 have hu29 := Tryz.underlying29
 have HB := Aside0.mk (Below.refl w.heap.size w)
 have H : (some (wrap64 (a0_2 - (a0_0.size : Int)))) = some r := h
 clear h
 obtain rfl := Option.some.inj H
 go_enter Tryz.func39, Tryz.ntmps39
 go_wp2_with (first | ((with_reducible refine gate_dst (N := 1) rfl ?_); refine box_event ?hg (N := 1) ?hd (cs := #[.string a0_0, .string a0_1, .int .i64 a0_2]) (t := 29) ?hr ?_; (case hd => rfl); (case hg => rfl); (case hr => exact zq0); intro gb101 hg w2 hbox hb; have n0_ := Aside0.mk (below_step (zq1) hb); have n1_ := Aside0.mk (hbox); have n2_ := Aside0.mk ((zq2 : w.heap.size ≤ gb101)); have n3_ := Aside0.mk ((zq2 : w.heap.size ≤ gb101)); clear HB; have HB := n0_; have BK101 := n1_; have GW101 := n2_; have GE101 := n3_; clear n0_ n1_ n2_ n3_; clear hb hbox hg; have hcz3_0 : w2.cell? ⟨gb101, 0, none⟩ = some (.string a0_0) := (blk_cell BK101.out 0).trans rfl; have hcz3_1 : w2.cell? ⟨gb101, 1, none⟩ = some (.string a0_1) := (blk_cell BK101.out 1).trans rfl; have hcz3_2 : w2.cell? ⟨gb101, 2, none⟩ = some (.int .i64 a0_2) := (blk_cell BK101.out 2).trans rfl; have hfz3_0 := blk_frozen BK101.out 0; have hfz3_1 := blk_frozen BK101.out 1; have hfz3_2 := blk_frozen BK101.out 2))
 go_ret
 exact ⟨by first | rfl | (simp [errW_none, errW_some] <;> rfl) | (simp [*, errW_none, errW_some] <;> rfl), by repeat (first | (with_reducible first | exact HB.out | apply below_alloc | apply pw_below_drewN | apply below_drew1 | refine below_set ?_ GE101.out) | exact HB.out)⟩
end Go.Proofs.YtlmfoblgheepoaaGreatDoor.Pl
end
section
open Go.Proofs.YtlmfoblgheepoaaGreatDoor.Z
namespace Go.Proofs.YtlmfoblgheepoaaGreatDoor.Pl
open Go.RowKit Go.Proofs.YtlmfoblgheepoaaGreatDoorW.PrintWords Go.Proofs.YtlmfoblgheepoaaGreatDoorW.PrintLast Go.Proofs.YtlmfoblgheepoaaGreatDoorW.PrintMore
attribute [local go_sem] max2_int min2_int max_two min_two max_three min_three max_four min_four
set_option linter.unusedVariables false
set_option linter.unusedSimpArgs false
def strings_Trim.f (s cut : ByteArray) : Option ByteArray :=
 if s.size ≤ 9223372036854775807 ∧ cut.size < 4294967281 ∧ cut.data.toList.all (fun b => decide (b.toNat < 128)) = true then some ⟨(Lib.trimS s.data.toList cut.data.toList).toArray⟩ else none
theorem strings_Trim.calls (s cut : ByteArray) (r : ByteArray) (w : World) (h : strings_Trim.f s cut = some r) :
 Calls Tryz.prog 40 #[.string s, .string cut] w fun e w' => e = .returned (.string r) ∧ Below w.heap.size w w' := by
 unfold strings_Trim.f at h
 split at h
 ·rename_i hc
  obtain ⟨h1, h2, h3⟩ := hc
  obtain rfl := Option.some.inj h
  refine Tryz.strings_Trim_laid s cut w h1 h2 (fun j b hb => ?_)
  have := List.all_eq_true.1 h3 b (List.mem_of_getElem? hb)
  exact of_decide_eq_true this
 ·cases h
end Go.Proofs.YtlmfoblgheepoaaGreatDoor.Pl
end
section
open Go.Proofs.YtlmfoblgheepoaaGreatDoor.Z
namespace Go.Proofs.YtlmfoblgheepoaaGreatDoor.Pl
open Go.RowKit Go.Proofs.YtlmfoblgheepoaaGreatDoorW.PrintWords Go.Proofs.YtlmfoblgheepoaaGreatDoorW.PrintLast Go.Proofs.YtlmfoblgheepoaaGreatDoorW.PrintMore
attribute [local go_sem] max2_int min2_int max_two min_two max_three min_three max_four min_four
set_option linter.unusedVariables false
set_option linter.unusedSimpArgs false
def strings_HasPrefix.f (s p : ByteArray) : Option Bool := some (Lib.hasPrefix s.data.toList p.data.toList)
theorem strings_HasPrefix.calls (s p : ByteArray) (r : Bool) (w : World) (h : strings_HasPrefix.f s p = some r) :
 Calls Tryz.prog 38 #[.string s, .string p] w fun e w' => e = .returned (.bool r) ∧ Below w.heap.size w w' := by
 obtain rfl := Option.some.inj h
 exact (Tryz.strings_HasPrefix s p w).mono fun e w' ⟨he, hw⟩ => ⟨he, hw ▸ Below.refl _ _⟩
end Go.Proofs.YtlmfoblgheepoaaGreatDoor.Pl
end
section
open Go.Proofs.YtlmfoblgheepoaaGreatDoor.Z
namespace Go.Proofs.YtlmfoblgheepoaaGreatDoor.Pl
open Go.RowKit Go.Proofs.YtlmfoblgheepoaaGreatDoorW.PrintWords Go.Proofs.YtlmfoblgheepoaaGreatDoorW.PrintLast Go.Proofs.YtlmfoblgheepoaaGreatDoorW.PrintMore
attribute [local go_sem] max2_int min2_int max_two min_two max_three min_three max_four min_four
set_option linter.unusedVariables false
set_option linter.unusedSimpArgs false
def plan_isDigits.f (a0 : ByteArray) : Option (Bool) := (strings_Trim.f a0 (⟨#[48, 49, 50, 51, 52, 53, 54, 55, 56, 57]⟩ : ByteArray)).bind fun t102 => (some (t102.toList == ([] : List UInt8)))
set_option maxHeartbeats 8000000 in
set_option maxRecDepth 100000 in
theorem plan_isDigits.calls (a0 : ByteArray) (r : Bool) (w : World) (h : plan_isDigits.f a0 = some r) :
 Calls Tryz.prog 49 #[.string a0] w fun e w' => e = .returned (.bool r) ∧ Below w.heap.size w w' := by
 have HB := Aside0.mk (Below.refl w.heap.size w)
 have H : ((strings_Trim.f a0 (⟨#[48, 49, 50, 51, 52, 53, 54, 55, 56, 57]⟩ : ByteArray)).bind fun t102 => (some (t102.toList == ([] : List UInt8)))) = some r := h
 clear h
 replace H := Option.bind_eq_some_iff.mp H
 obtain ⟨t102, A20, H⟩ := H
 try dsimp only at H
 have A2 := Aside0.mk A20
 clear A20
 obtain rfl := Option.some.inj H
 go_enter Tryz.func49, Tryz.ntmps49
 go_wp2_with (first | ((with_reducible refine gate_callee (f := 40) rfl ?_); refine goesL_ (some 4) rfl rfl Tryz.func40 (by kernel_rfl) rfl #[.string a0, .string (⟨#[48, 49, 50, 51, 52, 53, 54, 55, 56, 57]⟩ : ByteArray)] rfl (zq3) ?_; (with_reducible refine (strings_Trim.calls a0 (⟨#[48, 49, 50, 51, 52, 53, 54, 55, 56, 57]⟩ : ByteArray) t102 _ A2.out).mono ?_); rintro e w3 ⟨rfl, hb⟩; refine ⟨_, rfl, ?_⟩; have n0_ := Aside0.mk (below_step (zq1) hb); clear HB; have HB := n0_; clear n0_; (try clear hb); (try clear hb2); (try clear hk); (try clear hi)))
 go_ret
 exact ⟨by first | rfl | (simp [errW_none, errW_some] <;> rfl) | (simp [*, errW_none, errW_some] <;> rfl), by repeat (first | (with_reducible first | exact HB.out | apply below_alloc | apply pw_below_drewN | apply below_drew1) | exact HB.out)⟩
end Go.Proofs.YtlmfoblgheepoaaGreatDoor.Pl
end
section
open Go.Proofs.YtlmfoblgheepoaaGreatDoor.Z
namespace Go.Proofs.YtlmfoblgheepoaaGreatDoor.Pl
open Go.RowKit Go.Proofs.YtlmfoblgheepoaaGreatDoorW.PrintWords Go.Proofs.YtlmfoblgheepoaaGreatDoorW.PrintLast Go.Proofs.YtlmfoblgheepoaaGreatDoorW.PrintMore
attribute [local go_sem] max2_int min2_int max_two min_two max_three min_three max_four min_four
set_option linter.unusedVariables false
set_option linter.unusedSimpArgs false
def plan_areApart.f (a0 : ByteArray) (a1 : ByteArray) : Option (Bool) := (strings_HasPrefix.f a0 a1).bind fun t103 => (if t103 = true then (some false) else ((strings_HasPrefix.f a1 a0).bind fun t104 => (some (!t104))))
set_option maxHeartbeats 8000000 in
set_option maxRecDepth 100000 in
theorem plan_areApart.calls (a0 : ByteArray) (a1 : ByteArray) (r : Bool) (w : World) (h : plan_areApart.f a0 a1 = some r) :
 Calls Tryz.prog 56 #[.string a0, .string a1] w fun e w' => e = .returned (.bool r) ∧ Below w.heap.size w w' := by
 have HB := Aside0.mk (Below.refl w.heap.size w)
 have H : ((strings_HasPrefix.f a0 a1).bind fun t103 => (if t103 = true then (some false) else ((strings_HasPrefix.f a1 a0).bind fun t104 => (some (!t104))))) = some r := h
 clear h
 replace H := Option.bind_eq_some_iff.mp H
 obtain ⟨t103, A30, H⟩ := H
 try dsimp only at H
 have A3 := Aside0.mk A30
 clear A30
 by_cases c4 : t103 = true
 ·subst c4
  rw [if_pos rfl] at H
  obtain rfl := Option.some.inj H
  go_enter Tryz.func56, Tryz.ntmps56
  go_wp2_with (first | ((with_reducible refine gate_callee (f := 38) rfl ?_); refine goesL_ (some 7) rfl rfl Tryz.func38 (by kernel_rfl) rfl #[.string a0, .string a1] rfl (zq3) ?_; (with_reducible refine (strings_HasPrefix.calls a0 a1 true _ A3.out).mono ?_); rintro e w5 ⟨rfl, hb⟩; refine ⟨_, rfl, ?_⟩; have n0_ := Aside0.mk (below_step (zq1) hb); clear HB; have HB := n0_; clear n0_; (try clear hb); (try clear hb2); (try clear hk); (try clear hi)))
  go_ret
  exact ⟨by first | rfl | (simp [errW_none, errW_some] <;> rfl) | (simp [*, errW_none, errW_some] <;> rfl), by repeat (first | (with_reducible first | exact HB.out | apply below_alloc | apply pw_below_drewN | apply below_drew1) | exact HB.out)⟩
 ·replace c4 := Bool.eq_false_iff.mpr c4
  subst c4
  rw [if_neg (show ¬ (false = true) by decide)] at H
  replace H := Option.bind_eq_some_iff.mp H
  obtain ⟨t104, A60, H⟩ := H
  try dsimp only at H
  have A6 := Aside0.mk A60
  clear A60
  obtain rfl := Option.some.inj H
  go_enter Tryz.func56, Tryz.ntmps56
  go_wp2_with (first | ((with_reducible refine gate_callee (f := 38) rfl ?_); refine goesL_ (some 7) rfl rfl Tryz.func38 (by kernel_rfl) rfl #[.string a0, .string a1] rfl (zq3) ?_; (with_reducible refine (strings_HasPrefix.calls a0 a1 false _ A3.out).mono ?_); rintro e w7 ⟨rfl, hb⟩; refine ⟨_, rfl, ?_⟩; have n0_ := Aside0.mk (below_step (zq1) hb); clear HB; have HB := n0_; clear n0_; (try clear hb); (try clear hb2); (try clear hk); (try clear hi)) | (go_at_call 38; (with_reducible refine (strings_HasPrefix.calls a1 a0 t104 _ A6.out).mono ?_); rintro e w8 ⟨rfl, hb⟩; have n0_ := Aside0.mk (below_step (zq1) hb); clear HB; have HB := n0_; clear n0_; (try clear hb); (try clear hb2); (try clear hk); (try clear hi)))
  go_ret
  exact ⟨by first | rfl | (simp [errW_none, errW_some] <;> rfl) | (simp [*, errW_none, errW_some] <;> rfl), by repeat (first | (with_reducible first | exact HB.out | apply below_alloc | apply pw_below_drewN | apply below_drew1) | exact HB.out)⟩
def plan_isCode.j0 : Nat → Bool → ByteArray → ByteArray → Int → Option (Bool)
 | 0, _, _, _, _ => none
 | k + 1, x33, x106000, x106001, x106002 => if x33 = true then (some false) else ((plan_room.f x106000 x106001 x106002).bind fun t110 => (if t110 ≤ (wrap64 (8 - (x106001.size : Int))) then ((plan_areApart.f x106000 x106001).bind fun t111 => (some t111)) else (some false)))
def plan_isCode.f (k : Nat) (a0_0 : ByteArray) (a0_1 : ByteArray) (a0_2 : Int) : Option (Bool) := if a0_0.size + a0_1.size ≤ 9223372036854775807 then ((plan_isDigits.f (a0_0 ++ a0_1)).bind fun t106 => (if t106 = true then ((plan_isWithin.f (a0_0.size : Int) 1 4).bind fun t107 => (if t107 = true then ((plan_isWithin.f (a0_1.size : Int) 1 5).bind fun t108 => (if t108 = true then ((plan_isWithin.f a0_2 (wrap64 ((a0_0.size : Int) + 1)) 7).bind fun t109 => (plan_isCode.j0 k (!t109) a0_0 a0_1 a0_2)) else (plan_isCode.j0 k true a0_0 a0_1 a0_2))) else (plan_isCode.j0 k true a0_0 a0_1 a0_2))) else (plan_isCode.j0 k true a0_0 a0_1 a0_2))) else (none)
theorem plan_isCode.mono_l : ∀ k, (∀ y0 y1 y2 y3, LeO (plan_isCode.j0 k y0 y1 y2 y3) (plan_isCode.j0 (k + 1) y0 y1 y2 y3))
 | 0 => fun _ _ _ _ r h => by simp [plan_isCode.j0] at h
 | k + 1 => by
  have ih0 := plan_isCode.mono_l k
  ·intro y0 y1 y2 y3
   unfold plan_isCode.j0
   repeat' first
   | (with_reducible exact ih0 _ _ _ _)
   | (with_reducible exact LeO.refl _)
   | (with_reducible exact LeO.none _)
   | (with_reducible refine LeO.ite ?_ ?_)
   | (with_reducible refine LeO.bind ?_ (fun _ => ?_))
   | exact ih0 _ _ _ _
   | exact LeO.none _
   | refine LeO.ite ?_ ?_
   | refine LeO.bind ?_ (fun _ => ?_)
theorem plan_isCode.mono : ∀ a0 a1 a2 k, LeO (plan_isCode.f k a0 a1 a2) (plan_isCode.f (k + 1) a0 a1 a2) := by
 intro a0 a1 a2 k
 have ih0 := plan_isCode.mono_l k
 unfold plan_isCode.f
 repeat' first
  | (with_reducible exact ih0 _ _ _ _)
  | (with_reducible exact LeO.refl _)
  | (with_reducible exact LeO.none _)
  | (with_reducible refine LeO.ite ?_ ?_)
  | (with_reducible refine LeO.bind ?_ (fun _ => ?_))
  | exact ih0 _ _ _ _
  | exact LeO.none _
  | refine LeO.ite ?_ ?_
  | refine LeO.bind ?_ (fun _ => ?_)
def plan_isCode.T3 : Bool × List (List Nat × List Nat) := (true, [([], []), ([0], [0]), ([], []), ([2], [2]), ([3], [3]), ([4], [4]), ([1, 5], [1, 5]), ([6, 1], [6]), ([7], [7]), ([8, 7], [7, 8]), ([7], [7]), ([10, 7], [7, 10]), ([9, 11, 7, 7], [7, 9, 11]), ([7, 12], [7, 12]), ([13, 12, 0, 1, 2, 3, 4, 5, 6, 7, 8, 9, 10, 11, 12, 13], [13])])
def plan_isCode.B3 : List Nat := [0, 1, 0, 4, 12, 28, 63, 127, 255, 511, 255, 1279, 4095, 8191, 16383]
theorem plan_isCode.tab3 : rtab .any (opsOf Tryz.f54 3) = plan_isCode.T3 := by kernel_rfl
theorem plan_isCode.bits3 : waitsOk plan_isCode.T3.2 plan_isCode.B3 = true := by kernel_rfl
set_option maxHeartbeats 8000000 in
set_option maxRecDepth 100000 in
theorem plan_isCode.calls (k : Nat) (a0_0 : ByteArray) (a0_1 : ByteArray) (a0_2 : Int) (r : Bool) (w : World) (h : plan_isCode.f k a0_0 a0_1 a0_2 = some r) :
 Calls Tryz.prog 54 #[.agg #[.string a0_0, .string a0_1, .int .i64 a0_2]] w fun e w' => e = .returned (.bool r) ∧ Below w.heap.size w w' := by
 have hu29 := Tryz.underlying29
 have HB := Aside0.mk (Below.refl w.heap.size w)
 have H : (if a0_0.size + a0_1.size ≤ 9223372036854775807 then ((plan_isDigits.f (a0_0 ++ a0_1)).bind fun t106 => (if t106 = true then ((plan_isWithin.f (a0_0.size : Int) 1 4).bind fun t107 => (if t107 = true then ((plan_isWithin.f (a0_1.size : Int) 1 5).bind fun t108 => (if t108 = true then ((plan_isWithin.f a0_2 (wrap64 ((a0_0.size : Int) + 1)) 7).bind fun t109 => (plan_isCode.j0 k (!t109) a0_0 a0_1 a0_2)) else (plan_isCode.j0 k true a0_0 a0_1 a0_2))) else (plan_isCode.j0 k true a0_0 a0_1 a0_2))) else (plan_isCode.j0 k true a0_0 a0_1 a0_2))) else (none)) = some r := h
 clear h
 have HC2 := Aside0.mk H
 clear H
 go_enter Tryz.func54, Tryz.ntmps54
 go_upto_region 1 with (first | ((with_reducible refine gate_dst (N := 1) rfl ?_); (try (refine gate_guard (by rfl) ?_; dsimp only)); refine box_event ?hg (N := 1) ?hd (cs := #[.string a0_0, .string a0_1, .int .i64 a0_2]) (t := 29) ?hr ?_; (case hd => rfl); (case hg => rfl); (case hr => exact zq0); intro gb105 hg w3 hbox hb; have n0_ := Aside0.mk (below_step (zq1) hb); have n1_ := Aside0.mk (hbox); have n2_ := Aside0.mk ((zq2 : w.heap.size ≤ gb105)); have n3_ := Aside0.mk ((zq2 : w.heap.size ≤ gb105)); clear HB; have HB := n0_; have BK105 := n1_; have GW105 := n2_; have GE105 := n3_; clear n0_ n1_ n2_ n3_; clear hb hbox hg))
 (try simp only [Act.put, List.setIfInBounds_toArray, List.set_cons_zero, List.set_cons_succ])
 go_cut [33] (fun v33 wc => ∃ (kq : Nat) (x33_1 : Bool), v33 = .bool x33_1 ∧ Aside0 (plan_isCode.j0 kq x33_1 a0_0 a0_1 a0_2 = some r) ∧ Aside0 (kq ≤ k) ∧ Aside0 (wc.heap[gb105]? = some (.cells #[.string a0_0, .string a0_1, .int .i64 a0_2] 29 (0, 0))) ∧ Aside0 (Below w.heap.size w wc))
 case first =>
  have H := HC2.out
  clear HC2
  by_cases c4 : a0_0.size + a0_1.size ≤ 9223372036854775807
  ·rw [if_pos c4] at H
   have c4b0 := eq_true c4
   have c4b1 : decide (a0_0.size + a0_1.size ≤ 9223372036854775807) = true := decide_eq_true c4
   try have c4b2 : (9223372036854775807 < a0_0.size + a0_1.size) = False := eq_false (Nat.not_lt.2 c4)
   replace H := Option.bind_eq_some_iff.mp H
   obtain ⟨t106, A50, H⟩ := H
   try dsimp only at H
   have A5 := Aside0.mk A50
   clear A50
   by_cases c6 : t106 = true
   ·subst c6
    rw [if_pos rfl] at H
    replace H := Option.bind_eq_some_iff.mp H
    obtain ⟨t107, A70, H⟩ := H
    try dsimp only at H
    have A7 := Aside0.mk A70
    clear A70
    by_cases c8 : t107 = true
    ·subst c8
     rw [if_pos rfl] at H
     replace H := Option.bind_eq_some_iff.mp H
     obtain ⟨t108, A90, H⟩ := H
     try dsimp only at H
     have A9 := Aside0.mk A90
     clear A90
     by_cases c10 : t108 = true
     ·subst c10
      rw [if_pos rfl] at H
      replace H := Option.bind_eq_some_iff.mp H
      obtain ⟨t109, A110, H⟩ := H
      try dsimp only at H
      have A11 := Aside0.mk A110
      clear A110
      have H' := Aside0.mk H
      clear H
      have hcz12_0 : w3.cell? ⟨gb105, 0, none⟩ = some (.string a0_0) := (blk_cell BK105.out 0).trans rfl
      have hcz12_1 : w3.cell? ⟨gb105, 1, none⟩ = some (.string a0_1) := (blk_cell BK105.out 1).trans rfl
      have hcz12_2 : w3.cell? ⟨gb105, 2, none⟩ = some (.int .i64 a0_2) := (blk_cell BK105.out 2).trans rfl
      have hfz12_0 := blk_frozen BK105.out 0
      have hfz12_1 := blk_frozen BK105.out 1
      have hfz12_2 := blk_frozen BK105.out 2
      go_wp2_with (first | ((with_reducible refine gate_callee (f := 49) rfl ?_); refine goesL_ (some 8) rfl rfl Tryz.func49 (by kernel_rfl) rfl #[.string (a0_0 ++ a0_1)] rfl (zq3) ?_; (with_reducible refine (plan_isDigits.calls (a0_0 ++ a0_1) true _ A5.out).mono ?_); rintro e w13 ⟨rfl, hb⟩; refine ⟨_, rfl, ?_⟩; have n0_ := Aside0.mk (blk_below (g := gb105) (o := .cells #[.string a0_0, .string a0_1, .int .i64 a0_2] 29 (0, 0)) (zq4) hb); have n1_ := Aside0.mk (below_step (zq5) hb); clear BK105; clear HB; have BK105 := n0_; have HB := n1_; clear n0_ n1_; (try clear hb); (try clear hb2); (try clear hk); (try clear hi); have hcz14_0 : w13.cell? ⟨gb105, 0, none⟩ = some (.string a0_0) := (blk_cell BK105.out 0).trans rfl; have hcz14_1 : w13.cell? ⟨gb105, 1, none⟩ = some (.string a0_1) := (blk_cell BK105.out 1).trans rfl; have hcz14_2 : w13.cell? ⟨gb105, 2, none⟩ = some (.int .i64 a0_2) := (blk_cell BK105.out 2).trans rfl; have hfz14_0 := blk_frozen BK105.out 0; have hfz14_1 := blk_frozen BK105.out 1; have hfz14_2 := blk_frozen BK105.out 2) | (go_at_call 36; (with_reducible refine (plan_isWithin.calls (a0_0.size : Int) 1 4 true _ A7.out).mono ?_); rintro e w' ⟨rfl, ⟨nd, rfl⟩⟩) | (go_at_call 36; (with_reducible refine (plan_isWithin.calls (a0_1.size : Int) 1 5 true _ A9.out).mono ?_); rintro e w' ⟨rfl, ⟨nd, rfl⟩⟩) | (go_at_call 36; (with_reducible refine (plan_isWithin.calls a0_2 (wrap64 ((a0_0.size : Int) + 1)) 7 t109 _ A11.out).mono ?_); rintro e w' ⟨rfl, ⟨nd, rfl⟩⟩))
      go_meet
      case rel => exact ⟨_, (!t109), (zq6), H', ⟨by first | omega | exact Nat.le_refl _⟩, ⟨by (with_reducible repeat (first | refine blk_drewN ?_ _ | refine blk_drew ?_ | refine blk_alloc ?_ _)); exact BK105.out⟩, ⟨by repeat (first | (with_reducible first | exact HB.out | apply below_alloc | apply pw_below_drewN | apply below_drew1 | refine below_set ?_ GE105.out) | exact HB.out)⟩⟩
     ·replace c10 := Bool.eq_false_iff.mpr c10
      subst c10
      rw [if_neg (show ¬ (false = true) by decide)] at H
      have H' := Aside0.mk H
      clear H
      have hcz15_0 : w3.cell? ⟨gb105, 0, none⟩ = some (.string a0_0) := (blk_cell BK105.out 0).trans rfl
      have hcz15_1 : w3.cell? ⟨gb105, 1, none⟩ = some (.string a0_1) := (blk_cell BK105.out 1).trans rfl
      have hcz15_2 : w3.cell? ⟨gb105, 2, none⟩ = some (.int .i64 a0_2) := (blk_cell BK105.out 2).trans rfl
      have hfz15_0 := blk_frozen BK105.out 0
      have hfz15_1 := blk_frozen BK105.out 1
      have hfz15_2 := blk_frozen BK105.out 2
      go_wp2_with (first | ((with_reducible refine gate_callee (f := 49) rfl ?_); refine goesL_ (some 8) rfl rfl Tryz.func49 (by kernel_rfl) rfl #[.string (a0_0 ++ a0_1)] rfl (zq3) ?_; (with_reducible refine (plan_isDigits.calls (a0_0 ++ a0_1) true _ A5.out).mono ?_); rintro e w16 ⟨rfl, hb⟩; refine ⟨_, rfl, ?_⟩; have n0_ := Aside0.mk (blk_below (g := gb105) (o := .cells #[.string a0_0, .string a0_1, .int .i64 a0_2] 29 (0, 0)) (zq4) hb); have n1_ := Aside0.mk (below_step (zq5) hb); clear BK105; clear HB; have BK105 := n0_; have HB := n1_; clear n0_ n1_; (try clear hb); (try clear hb2); (try clear hk); (try clear hi); have hcz17_0 : w16.cell? ⟨gb105, 0, none⟩ = some (.string a0_0) := (blk_cell BK105.out 0).trans rfl; have hcz17_1 : w16.cell? ⟨gb105, 1, none⟩ = some (.string a0_1) := (blk_cell BK105.out 1).trans rfl; have hcz17_2 : w16.cell? ⟨gb105, 2, none⟩ = some (.int .i64 a0_2) := (blk_cell BK105.out 2).trans rfl; have hfz17_0 := blk_frozen BK105.out 0; have hfz17_1 := blk_frozen BK105.out 1; have hfz17_2 := blk_frozen BK105.out 2) | (go_at_call 36; (with_reducible refine (plan_isWithin.calls (a0_0.size : Int) 1 4 true _ A7.out).mono ?_); rintro e w' ⟨rfl, ⟨nd, rfl⟩⟩) | (go_at_call 36; (with_reducible refine (plan_isWithin.calls (a0_1.size : Int) 1 5 false _ A9.out).mono ?_); rintro e w' ⟨rfl, ⟨nd, rfl⟩⟩))
      go_meet
      case rel => exact ⟨_, (true), (zq6), H', ⟨by first | omega | exact Nat.le_refl _⟩, ⟨by (with_reducible repeat (first | refine blk_drewN ?_ _ | refine blk_drew ?_ | refine blk_alloc ?_ _)); exact BK105.out⟩, ⟨by repeat (first | (with_reducible first | exact HB.out | apply below_alloc | apply pw_below_drewN | apply below_drew1 | refine below_set ?_ GE105.out) | exact HB.out)⟩⟩
    ·replace c8 := Bool.eq_false_iff.mpr c8
     subst c8
     rw [if_neg (show ¬ (false = true) by decide)] at H
     have H' := Aside0.mk H
     clear H
     have hcz18_0 : w3.cell? ⟨gb105, 0, none⟩ = some (.string a0_0) := (blk_cell BK105.out 0).trans rfl
     have hcz18_1 : w3.cell? ⟨gb105, 1, none⟩ = some (.string a0_1) := (blk_cell BK105.out 1).trans rfl
     have hcz18_2 : w3.cell? ⟨gb105, 2, none⟩ = some (.int .i64 a0_2) := (blk_cell BK105.out 2).trans rfl
     have hfz18_0 := blk_frozen BK105.out 0
     have hfz18_1 := blk_frozen BK105.out 1
     have hfz18_2 := blk_frozen BK105.out 2
     go_wp2_with (first | ((with_reducible refine gate_callee (f := 49) rfl ?_); refine goesL_ (some 8) rfl rfl Tryz.func49 (by kernel_rfl) rfl #[.string (a0_0 ++ a0_1)] rfl (zq3) ?_; (with_reducible refine (plan_isDigits.calls (a0_0 ++ a0_1) true _ A5.out).mono ?_); rintro e w19 ⟨rfl, hb⟩; refine ⟨_, rfl, ?_⟩; have n0_ := Aside0.mk (blk_below (g := gb105) (o := .cells #[.string a0_0, .string a0_1, .int .i64 a0_2] 29 (0, 0)) (zq4) hb); have n1_ := Aside0.mk (below_step (zq5) hb); clear BK105; clear HB; have BK105 := n0_; have HB := n1_; clear n0_ n1_; (try clear hb); (try clear hb2); (try clear hk); (try clear hi); have hcz20_0 : w19.cell? ⟨gb105, 0, none⟩ = some (.string a0_0) := (blk_cell BK105.out 0).trans rfl; have hcz20_1 : w19.cell? ⟨gb105, 1, none⟩ = some (.string a0_1) := (blk_cell BK105.out 1).trans rfl; have hcz20_2 : w19.cell? ⟨gb105, 2, none⟩ = some (.int .i64 a0_2) := (blk_cell BK105.out 2).trans rfl; have hfz20_0 := blk_frozen BK105.out 0; have hfz20_1 := blk_frozen BK105.out 1; have hfz20_2 := blk_frozen BK105.out 2) | (go_at_call 36; (with_reducible refine (plan_isWithin.calls (a0_0.size : Int) 1 4 false _ A7.out).mono ?_); rintro e w' ⟨rfl, ⟨nd, rfl⟩⟩))
     go_meet
     case rel => exact ⟨_, (true), (zq6), H', ⟨by first | omega | exact Nat.le_refl _⟩, ⟨by (with_reducible repeat (first | refine blk_drewN ?_ _ | refine blk_drew ?_ | refine blk_alloc ?_ _)); exact BK105.out⟩, ⟨by repeat (first | (with_reducible first | exact HB.out | apply below_alloc | apply pw_below_drewN | apply below_drew1 | refine below_set ?_ GE105.out) | exact HB.out)⟩⟩
   ·replace c6 := Bool.eq_false_iff.mpr c6
    subst c6
    rw [if_neg (show ¬ (false = true) by decide)] at H
    have H' := Aside0.mk H
    clear H
    have hcz21_0 : w3.cell? ⟨gb105, 0, none⟩ = some (.string a0_0) := (blk_cell BK105.out 0).trans rfl
    have hcz21_1 : w3.cell? ⟨gb105, 1, none⟩ = some (.string a0_1) := (blk_cell BK105.out 1).trans rfl
    have hcz21_2 : w3.cell? ⟨gb105, 2, none⟩ = some (.int .i64 a0_2) := (blk_cell BK105.out 2).trans rfl
    have hfz21_0 := blk_frozen BK105.out 0
    have hfz21_1 := blk_frozen BK105.out 1
    have hfz21_2 := blk_frozen BK105.out 2
    go_wp2_with (first | ((with_reducible refine gate_callee (f := 49) rfl ?_); refine goesL_ (some 8) rfl rfl Tryz.func49 (by kernel_rfl) rfl #[.string (a0_0 ++ a0_1)] rfl (zq3) ?_; (with_reducible refine (plan_isDigits.calls (a0_0 ++ a0_1) false _ A5.out).mono ?_); rintro e w22 ⟨rfl, hb⟩; refine ⟨_, rfl, ?_⟩; have n0_ := Aside0.mk (blk_below (g := gb105) (o := .cells #[.string a0_0, .string a0_1, .int .i64 a0_2] 29 (0, 0)) (zq4) hb); have n1_ := Aside0.mk (below_step (zq5) hb); clear BK105; clear HB; have BK105 := n0_; have HB := n1_; clear n0_ n1_; (try clear hb); (try clear hb2); (try clear hk); (try clear hi)))
    go_meet
    case rel => exact ⟨_, (true), (zq6), H', ⟨by first | omega | exact Nat.le_refl _⟩, ⟨by (with_reducible repeat (first | refine blk_drewN ?_ _ | refine blk_drew ?_ | refine blk_alloc ?_ _)); exact BK105.out⟩, ⟨by repeat (first | (with_reducible first | exact HB.out | apply below_alloc | apply pw_below_drewN | apply below_drew1 | refine below_set ?_ GE105.out) | exact HB.out)⟩⟩
  ·rw [if_neg c4] at H
   exact absurd H (by simp)
 case rest =>
  clear HC2
  try clear c1
  try clear p2
  try clear c4
  try clear c4b0
  try clear c4b1
  try clear c4b2
  try clear c5
  try clear c6
  try clear p6
  try clear c8
  try clear c10
  try clear hcz12_0
  try clear hcz12_1
  try clear hcz12_2
  try clear hcz14_0
  try clear hcz14_1
  try clear hcz14_2
  try clear hcz15_0
  try clear hcz15_1
  try clear hcz15_2
  try clear hcz17_0
  try clear hcz17_1
  try clear hcz17_2
  try clear hcz18_0
  try clear hcz18_1
  try clear hcz18_2
  try clear hcz20_0
  try clear hcz20_1
  try clear hcz20_2
  try clear hcz21_0
  try clear hcz21_1
  try clear hcz21_2
  try clear hfz12_0
  try clear hfz12_1
  try clear hfz12_2
  try clear hfz14_0
  try clear hfz14_1
  try clear hfz14_2
  try clear hfz15_0
  try clear hfz15_1
  try clear hfz15_2
  try clear hfz17_0
  try clear hfz17_1
  try clear hfz17_2
  try clear hfz18_0
  try clear hfz18_1
  try clear hfz18_2
  try clear hfz20_0
  try clear hfz20_1
  try clear hfz20_2
  try clear hfz21_0
  try clear hfz21_1
  try clear hfz21_2
  obtain ⟨kq, x33_1, rfl, HA, HJ1, BK105, HB⟩ := hcut
  cases kq with
  | zero => exact absurd HA.out (by simp [plan_isCode.j0])
  | succ kj1 =>
   have H := HA.out
   clear HA
   simp only [plan_isCode.j0] at H
   by_cases c23 : x33_1 = true
   ·subst c23
    rw [if_pos rfl] at H
    obtain rfl := Option.some.inj H
    go_wp2
    go_ret
    exact ⟨by first | rfl | (simp [errW_none, errW_some] <;> rfl) | (simp [*, errW_none, errW_some] <;> rfl), by repeat (first | (with_reducible first | exact HB.out | apply below_alloc | apply pw_below_drewN | apply below_drew1 | refine below_set ?_ GE105.out) | exact HB.out)⟩
   ·replace c23 := Bool.eq_false_iff.mpr c23
    subst c23
    rw [if_neg (show ¬ (false = true) by decide)] at H
    replace H := Option.bind_eq_some_iff.mp H
    obtain ⟨t110, A240, H⟩ := H
    try dsimp only at H
    have A24 := Aside0.mk A240
    clear A240
    by_cases c25 : t110 ≤ (wrap64 (8 - (a0_1.size : Int)))
    ·rw [if_pos c25] at H
     have c25b0 : decide (t110 ≤ (wrap64 (8 - (a0_1.size : Int)))) = true := decide_eq_true c25
     clear c25
     replace H := Option.bind_eq_some_iff.mp H
     obtain ⟨t111, A260, H⟩ := H
     try dsimp only at H
     have A26 := Aside0.mk A260
     clear A260
     obtain rfl := Option.some.inj H
     try go_wp2
     have n0_ := Aside0.mk (blk_drew BK105.out)
     have n1_ := Aside0.mk (below_drew1 HB.out)
     clear BK105
     clear HB
     have BK105 := n0_
     have HB := n1_
     clear n0_ n1_
     refine start_ (n := 15) (S := fun w' => w'.cell? ⟨gb105, 0, none⟩ = some (.string a0_0) ∧ w'.cell? ⟨gb105, 1, none⟩ = some (.string a0_1) ∧ w'.cell? ⟨gb105, 2, none⟩ = some (.int .i64 a0_2)) (ds := []) #[false, false, false, false, false, false, false, false, false, false, false, false, false, false, false] (by kernel_rfl) rfl rfl ⟨(blk_cell BK105.out 0).trans rfl, (blk_cell BK105.out 1).trans rfl, (blk_cell BK105.out 2).trans rfl⟩ (fun hHeld => ?_); refine with_tabW plan_isCode.tab3 plan_isCode.bits3 (fun HT_ HW_ => ?_)
     generalize wc.drew = w27 at BK105 HB hHeld ⊢
     refine pure_ (i := 2) (N := some 36) (v := ?_) (a' := ?_) #[false, false, true, false, false, false, false, false, false, false, false, false, false, false, false] rfl rfl (any_of HT_.out (by kernel_rfl)) (fun _ _ _ h => h) (Or.inl ⟨by rfl, ?_⟩) ?_ ?_
     rotate_left
     ·intro w'
      go_simp
      with_reducible rfl
     rotate_left
     ·simp only [Act.put, List.setIfInBounds_toArray, List.set_cons_zero, List.set_cons_succ, i64_w, i32_w]
      rfl
     refine take_ (i := 0) (N := some 34) (v := ?_) (a' := ?_) #[true, false, true, false, false, false, false, false, false, false, false, false, false, false, false] rfl rfl (take_ofW HT_.out HW_.out (by kernel_rfl)) (fun _ _ _ h => h) (Or.inl ⟨by rfl, ?_⟩) hHeld ?_ ?_
     rotate_left
     ·rintro w' ⟨s0, s1, s2⟩
      go_simp
      with_reducible rfl
     rotate_left
     ·simp only [Act.put, List.setIfInBounds_toArray, List.set_cons_zero, List.set_cons_succ, i64_w, i32_w]
      rfl
     refine take_ (i := 3) (N := some 37) (v := ?_) (a' := ?_) #[true, false, true, true, false, false, false, false, false, false, false, false, false, false, false] rfl rfl (take_ofW HT_.out HW_.out (by kernel_rfl)) (fun _ _ _ h => h) (Or.inl ⟨by rfl, ?_⟩) hHeld ?_ ?_
     rotate_left
     ·rintro w' ⟨s0, s1, s2⟩
      go_simp
      with_reducible rfl
     rotate_left
     ·simp only [Act.put, List.setIfInBounds_toArray, List.set_cons_zero, List.set_cons_succ, i64_w, i32_w]
      rfl
     refine pure_ (i := 4) (N := some 38) (v := ?_) (a' := ?_) #[true, false, true, true, true, false, false, false, false, false, false, false, false, false, false] rfl rfl (any_of HT_.out (by kernel_rfl)) (fun _ _ _ h => h) (Or.inl ⟨by rfl, ?_⟩) ?_ ?_
     rotate_left
     ·intro w'
      go_simp
      with_reducible rfl
     rotate_left
     ·simp only [Act.put, List.setIfInBounds_toArray, List.set_cons_zero, List.set_cons_succ, i64_w, i32_w]
      rfl
     refine pure_ (i := 5) (N := some 39) (v := ?_) (a' := ?_) #[true, false, true, true, true, true, false, false, false, false, false, false, false, false, false] rfl rfl (any_of HT_.out (by kernel_rfl)) (fun _ _ _ h => h) (Or.inl ⟨by rfl, ?_⟩) ?_ ?_
     rotate_left
     ·intro w'
      go_simp
      with_reducible rfl
     rotate_left
     ·simp only [Act.put, List.setIfInBounds_toArray, List.set_cons_zero, List.set_cons_succ, i64_w, i32_w]
      rfl
     refine one_ (i := 1) (N := some 35) #[true, true, true, true, true, true, false, false, false, false, false, false, false, false, false] rfl rfl (one_of HT_.out (by kernel_rfl)) (by decide) (fun K hK => ?_)
     refine goes_ Tryz.func39 (by kernel_rfl) rfl #[.agg #[.string a0_0, .string a0_1, .int .i64 a0_2]] (by rfl) rfl rfl (zq3) ?_
     with_reducible refine (plan_room.calls a0_0 a0_1 a0_2 t110 _ A24.out).mono ?_
     rintro e w28 ⟨rfl, hb⟩
     refine ⟨_, rfl, ?_⟩
     have n0_ := Aside0.mk (blk_below (g := gb105) (o := .cells #[.string a0_0, .string a0_1, .int .i64 a0_2] 29 (0, 0)) (zq4) hb)
     have n1_ := Aside0.mk (below_step (zq5) hb)
     clear BK105
     clear HB
     have BK105 := n0_
     have HB := n1_
     clear n0_ n1_
     (try clear hb)
     (try clear hb2)
     (try clear hk)
     (try clear hi)
     refine hK.out _ _ ⟨(blk_cell BK105.out 0).trans rfl, (blk_cell BK105.out 1).trans rfl, (blk_cell BK105.out 2).trans rfl⟩ (fun hHeld => ?_)
     clear hK K
     refine norm_ (a' := ?_) ?_ ?_
     rotate_left
     ·show Act.put _ (some 35) _ = _
      simp only [Act.put, List.setIfInBounds_toArray, List.set_cons_zero, List.set_cons_succ, i64_w, i32_w]
      rfl
     refine pure_ (i := 6) (N := some 40) (v := ?_) (a' := ?_) #[true, true, true, true, true, true, true, false, false, false, false, false, false, false, false] rfl rfl (any_of HT_.out (by kernel_rfl)) (fun _ _ _ h => h) (Or.inl ⟨by rfl, ?_⟩) ?_ ?_
     rotate_left
     ·intro w'
      go_simp
      with_reducible rfl
     rotate_left
     ·simp only [Act.put, List.setIfInBounds_toArray, List.set_cons_zero, List.set_cons_succ, i64_w, i32_w]
      rfl
     refine pure_ (i := 7) (N := some 41) (v := ?_) (a' := ?_) #[true, true, true, true, true, true, true, true, false, false, false, false, false, false, false] rfl rfl (any_of HT_.out (by kernel_rfl)) (fun _ _ _ h => h) (Or.inl ⟨by rfl, ?_⟩) ?_ ?_
     rotate_left
     ·intro w'
      go_simp
      with_reducible rfl
     rotate_left
     ·simp only [Act.put, List.setIfInBounds_toArray, List.set_cons_zero, List.set_cons_succ, i64_w, i32_w]
      rfl
     refine pure_ (i := 8) (N := some 42) (v := ?_) (a' := ?_) #[true, true, true, true, true, true, true, true, true, false, false, false, false, false, false] rfl rfl (any_of HT_.out (by kernel_rfl)) (fun _ _ _ h => h) (Or.inl ⟨by rfl, ?_⟩) ?_ ?_
     rotate_left
     ·intro w'
      go_simp
      with_reducible rfl
     rotate_left
     ·simp only [Act.put, List.setIfInBounds_toArray, List.set_cons_zero, List.set_cons_succ, i64_w, i32_w]
      rfl
     refine pure_ (i := 10) (N := some 44) (v := ?_) (a' := ?_) #[true, true, true, true, true, true, true, true, true, false, true, false, false, false, false] rfl rfl (any_of HT_.out (by kernel_rfl)) (fun _ _ _ h => h) (Or.inl ⟨by rfl, ?_⟩) ?_ ?_
     rotate_left
     ·intro w'
      go_simp
      with_reducible rfl
     rotate_left
     ·simp only [Act.put, List.setIfInBounds_toArray, List.set_cons_zero, List.set_cons_succ, i64_w, i32_w]
      rfl
     refine take_ (i := 9) (N := some 43) (v := ?_) (a' := ?_) #[true, true, true, true, true, true, true, true, true, true, true, false, false, false, false] rfl rfl (take_ofW HT_.out HW_.out (by kernel_rfl)) (fun _ _ _ h => h) (Or.inl ⟨by rfl, ?_⟩) hHeld ?_ ?_
     rotate_left
     ·rintro w' ⟨s0, s1, s2⟩
      go_simp
      with_reducible rfl
     rotate_left
     ·simp only [Act.put, List.setIfInBounds_toArray, List.set_cons_zero, List.set_cons_succ, i64_w, i32_w]
      rfl
     refine take_ (i := 11) (N := some 45) (v := ?_) (a' := ?_) #[true, true, true, true, true, true, true, true, true, true, true, true, false, false, false] rfl rfl (take_ofW HT_.out HW_.out (by kernel_rfl)) (fun _ _ _ h => h) (Or.inl ⟨by rfl, ?_⟩) hHeld ?_ ?_
     rotate_left
     ·rintro w' ⟨s0, s1, s2⟩
      go_simp
      with_reducible rfl
     rotate_left
     ·simp only [Act.put, List.setIfInBounds_toArray, List.set_cons_zero, List.set_cons_succ, i64_w, i32_w]
      rfl
     refine one_ (i := 12) (N := some 46) #[true, true, true, true, true, true, true, true, true, true, true, true, true, false, false] rfl rfl (one_of HT_.out (by kernel_rfl)) (by decide) (fun K hK => ?_)
     refine goes_ Tryz.func56 (by kernel_rfl) rfl #[.string a0_0, .string a0_1] (by rfl) rfl rfl (zq3) ?_
     with_reducible refine (plan_areApart.calls a0_0 a0_1 t111 _ A26.out).mono ?_
     rintro e w29 ⟨rfl, hb⟩
     refine ⟨_, rfl, ?_⟩
     have n0_ := Aside0.mk (blk_below (g := gb105) (o := .cells #[.string a0_0, .string a0_1, .int .i64 a0_2] 29 (0, 0)) (zq4) hb)
     have n1_ := Aside0.mk (below_step (zq5) hb)
     clear BK105
     clear HB
     have BK105 := n0_
     have HB := n1_
     clear n0_ n1_
     (try clear hb)
     (try clear hb2)
     (try clear hk)
     (try clear hi)
     refine hK.out _ _ ⟨(blk_cell BK105.out 0).trans rfl, (blk_cell BK105.out 1).trans rfl, (blk_cell BK105.out 2).trans rfl⟩ (fun hHeld => ?_)
     clear hK K
     refine norm_ (a' := ?_) ?_ ?_
     rotate_left
     ·show Act.put _ (some 46) _ = _
      simp only [Act.put, List.setIfInBounds_toArray, List.set_cons_zero, List.set_cons_succ, i64_w, i32_w]
      rfl
     refine pure_ (i := 13) (N := some 47) (v := ?_) (a' := ?_) #[true, true, true, true, true, true, true, true, true, true, true, true, true, true, false] rfl rfl (any_of HT_.out (by kernel_rfl)) (fun _ _ _ h => h) (Or.inl ⟨by rfl, ?_⟩) ?_ ?_
     rotate_left
     ·intro w'
      go_simp
      with_reducible rfl
     rotate_left
     ·simp only [Act.put, List.setIfInBounds_toArray, List.set_cons_zero, List.set_cons_succ, i64_w, i32_w]
      rfl
     refine pure_ (i := 14) (N := some 2) (v := ?_) (a' := ?_) #[true, true, true, true, true, true, true, true, true, true, true, true, true, true, true] rfl rfl (any_of HT_.out (by kernel_rfl)) (fun _ _ _ h => h) (Or.inl ⟨by rfl, ?_⟩) ?_ ?_
     rotate_left
     ·intro w'
      go_simp
      with_reducible rfl
     rotate_left
     ·simp only [Act.put, List.setIfInBounds_toArray, List.set_cons_zero, List.set_cons_succ, i64_w, i32_w]
      rfl
     refine done_ (done_of HT_.out (by kernel_rfl)) ?_
     try go_wp2
     go_ret
     exact ⟨by first | rfl | (simp [errW_none, errW_some] <;> rfl) | (simp [*, errW_none, errW_some] <;> rfl), by repeat (first | (with_reducible first | exact HB.out | apply below_alloc | apply pw_below_drewN | apply below_drew1 | refine below_set ?_ GE105.out) | exact HB.out)⟩
    ·rw [if_neg c25] at H
     have c25b0 : decide (t110 ≤ (wrap64 (8 - (a0_1.size : Int)))) = false := decide_eq_false c25
     clear c25
     obtain rfl := Option.some.inj H
     try go_wp2
     have n0_ := Aside0.mk (blk_drew BK105.out)
     have n1_ := Aside0.mk (below_drew1 HB.out)
     clear BK105
     clear HB
     have BK105 := n0_
     have HB := n1_
     clear n0_ n1_
     refine start_ (n := 15) (S := fun w' => w'.cell? ⟨gb105, 0, none⟩ = some (.string a0_0) ∧ w'.cell? ⟨gb105, 1, none⟩ = some (.string a0_1) ∧ w'.cell? ⟨gb105, 2, none⟩ = some (.int .i64 a0_2)) (ds := []) #[false, false, false, false, false, false, false, false, false, false, false, false, false, false, false] (by kernel_rfl) rfl rfl ⟨(blk_cell BK105.out 0).trans rfl, (blk_cell BK105.out 1).trans rfl, (blk_cell BK105.out 2).trans rfl⟩ (fun hHeld => ?_); refine with_tabW plan_isCode.tab3 plan_isCode.bits3 (fun HT_ HW_ => ?_)
     generalize wc.drew = w30 at BK105 HB hHeld ⊢
     refine pure_ (i := 2) (N := some 36) (v := ?_) (a' := ?_) #[false, false, true, false, false, false, false, false, false, false, false, false, false, false, false] rfl rfl (any_of HT_.out (by kernel_rfl)) (fun _ _ _ h => h) (Or.inl ⟨by rfl, ?_⟩) ?_ ?_
     rotate_left
     ·intro w'
      go_simp
      with_reducible rfl
     rotate_left
     ·simp only [Act.put, List.setIfInBounds_toArray, List.set_cons_zero, List.set_cons_succ, i64_w, i32_w]
      rfl
     refine take_ (i := 0) (N := some 34) (v := ?_) (a' := ?_) #[true, false, true, false, false, false, false, false, false, false, false, false, false, false, false] rfl rfl (take_ofW HT_.out HW_.out (by kernel_rfl)) (fun _ _ _ h => h) (Or.inl ⟨by rfl, ?_⟩) hHeld ?_ ?_
     rotate_left
     ·rintro w' ⟨s0, s1, s2⟩
      go_simp
      with_reducible rfl
     rotate_left
     ·simp only [Act.put, List.setIfInBounds_toArray, List.set_cons_zero, List.set_cons_succ, i64_w, i32_w]
      rfl
     refine take_ (i := 3) (N := some 37) (v := ?_) (a' := ?_) #[true, false, true, true, false, false, false, false, false, false, false, false, false, false, false] rfl rfl (take_ofW HT_.out HW_.out (by kernel_rfl)) (fun _ _ _ h => h) (Or.inl ⟨by rfl, ?_⟩) hHeld ?_ ?_
     rotate_left
     ·rintro w' ⟨s0, s1, s2⟩
      go_simp
      with_reducible rfl
     rotate_left
     ·simp only [Act.put, List.setIfInBounds_toArray, List.set_cons_zero, List.set_cons_succ, i64_w, i32_w]
      rfl
     refine pure_ (i := 4) (N := some 38) (v := ?_) (a' := ?_) #[true, false, true, true, true, false, false, false, false, false, false, false, false, false, false] rfl rfl (any_of HT_.out (by kernel_rfl)) (fun _ _ _ h => h) (Or.inl ⟨by rfl, ?_⟩) ?_ ?_
     rotate_left
     ·intro w'
      go_simp
      with_reducible rfl
     rotate_left
     ·simp only [Act.put, List.setIfInBounds_toArray, List.set_cons_zero, List.set_cons_succ, i64_w, i32_w]
      rfl
     refine pure_ (i := 5) (N := some 39) (v := ?_) (a' := ?_) #[true, false, true, true, true, true, false, false, false, false, false, false, false, false, false] rfl rfl (any_of HT_.out (by kernel_rfl)) (fun _ _ _ h => h) (Or.inl ⟨by rfl, ?_⟩) ?_ ?_
     rotate_left
     ·intro w'
      go_simp
      with_reducible rfl
     rotate_left
     ·simp only [Act.put, List.setIfInBounds_toArray, List.set_cons_zero, List.set_cons_succ, i64_w, i32_w]
      rfl
     refine one_ (i := 1) (N := some 35) #[true, true, true, true, true, true, false, false, false, false, false, false, false, false, false] rfl rfl (one_of HT_.out (by kernel_rfl)) (by decide) (fun K hK => ?_)
     refine goes_ Tryz.func39 (by kernel_rfl) rfl #[.agg #[.string a0_0, .string a0_1, .int .i64 a0_2]] (by rfl) rfl rfl (zq3) ?_
     with_reducible refine (plan_room.calls a0_0 a0_1 a0_2 t110 _ A24.out).mono ?_
     rintro e w31 ⟨rfl, hb⟩
     refine ⟨_, rfl, ?_⟩
     have n0_ := Aside0.mk (blk_below (g := gb105) (o := .cells #[.string a0_0, .string a0_1, .int .i64 a0_2] 29 (0, 0)) (zq4) hb)
     have n1_ := Aside0.mk (below_step (zq5) hb)
     clear BK105
     clear HB
     have BK105 := n0_
     have HB := n1_
     clear n0_ n1_
     (try clear hb)
     (try clear hb2)
     (try clear hk)
     (try clear hi)
     refine hK.out _ _ ⟨(blk_cell BK105.out 0).trans rfl, (blk_cell BK105.out 1).trans rfl, (blk_cell BK105.out 2).trans rfl⟩ (fun hHeld => ?_)
     clear hK K
     refine norm_ (a' := ?_) ?_ ?_
     rotate_left
     ·show Act.put _ (some 35) _ = _
      simp only [Act.put, List.setIfInBounds_toArray, List.set_cons_zero, List.set_cons_succ, i64_w, i32_w]
      rfl
     refine pure_ (i := 6) (N := some 40) (v := ?_) (a' := ?_) #[true, true, true, true, true, true, true, false, false, false, false, false, false, false, false] rfl rfl (any_of HT_.out (by kernel_rfl)) (fun _ _ _ h => h) (Or.inl ⟨by rfl, ?_⟩) ?_ ?_
     rotate_left
     ·intro w'
      go_simp
      with_reducible rfl
     rotate_left
     ·simp only [Act.put, List.setIfInBounds_toArray, List.set_cons_zero, List.set_cons_succ, i64_w, i32_w]
      rfl
     refine pure_ (i := 7) (N := some 41) (v := ?_) (a' := ?_) #[true, true, true, true, true, true, true, true, false, false, false, false, false, false, false] rfl rfl (any_of HT_.out (by kernel_rfl)) (fun _ _ _ h => h) (Or.inl ⟨by rfl, ?_⟩) ?_ ?_
     rotate_left
     ·intro w'
      go_simp
      with_reducible rfl
     rotate_left
     ·simp only [Act.put, List.setIfInBounds_toArray, List.set_cons_zero, List.set_cons_succ, i64_w, i32_w]
      rfl
     refine pure_ (i := 8) (N := some 42) (v := undef) (a' := ?_) #[true, true, true, true, true, true, true, true, true, false, false, false, false, false, false] rfl rfl (any_of HT_.out (by kernel_rfl)) (fun _ _ _ h => h) (Or.inr ⟨by rfl, rfl⟩) ?_ ?_
     rotate_left
     ·simp only [Act.put, List.setIfInBounds_toArray, List.set_cons_zero, List.set_cons_succ, i64_w, i32_w]
      rfl
     refine pure_ (i := 9) (N := some 43) (v := undef) (a' := ?_) #[true, true, true, true, true, true, true, true, true, true, false, false, false, false, false] rfl rfl (any_of HT_.out (by kernel_rfl)) (fun _ _ _ h => h) (Or.inr ⟨by rfl, rfl⟩) ?_ ?_
     rotate_left
     ·simp only [Act.put, List.setIfInBounds_toArray, List.set_cons_zero, List.set_cons_succ, i64_w, i32_w]
      rfl
     refine pure_ (i := 10) (N := some 44) (v := undef) (a' := ?_) #[true, true, true, true, true, true, true, true, true, true, true, false, false, false, false] rfl rfl (any_of HT_.out (by kernel_rfl)) (fun _ _ _ h => h) (Or.inr ⟨by rfl, rfl⟩) ?_ ?_
     rotate_left
     ·simp only [Act.put, List.setIfInBounds_toArray, List.set_cons_zero, List.set_cons_succ, i64_w, i32_w]
      rfl
     refine pure_ (i := 11) (N := some 45) (v := undef) (a' := ?_) #[true, true, true, true, true, true, true, true, true, true, true, true, false, false, false] rfl rfl (any_of HT_.out (by kernel_rfl)) (fun _ _ _ h => h) (Or.inr ⟨by rfl, rfl⟩) ?_ ?_
     rotate_left
     ·simp only [Act.put, List.setIfInBounds_toArray, List.set_cons_zero, List.set_cons_succ, i64_w, i32_w]
      rfl
     refine pure_ (i := 12) (N := some 46) (v := undef) (a' := ?_) #[true, true, true, true, true, true, true, true, true, true, true, true, true, false, false] rfl rfl (any_of HT_.out (by kernel_rfl)) (fun _ _ _ h => h) (Or.inr ⟨by rfl, rfl⟩) ?_ ?_
     rotate_left
     ·simp only [Act.put, List.setIfInBounds_toArray, List.set_cons_zero, List.set_cons_succ, i64_w, i32_w]
      rfl
     refine pure_ (i := 13) (N := some 47) (v := ?_) (a' := ?_) #[true, true, true, true, true, true, true, true, true, true, true, true, true, true, false] rfl rfl (any_of HT_.out (by kernel_rfl)) (fun _ _ _ h => h) (Or.inl ⟨by rfl, ?_⟩) ?_ ?_
     rotate_left
     ·intro w'
      go_simp
      with_reducible rfl
     rotate_left
     ·simp only [Act.put, List.setIfInBounds_toArray, List.set_cons_zero, List.set_cons_succ, i64_w, i32_w]
      rfl
     refine pure_ (i := 14) (N := some 2) (v := ?_) (a' := ?_) #[true, true, true, true, true, true, true, true, true, true, true, true, true, true, true] rfl rfl (any_of HT_.out (by kernel_rfl)) (fun _ _ _ h => h) (Or.inl ⟨by rfl, ?_⟩) ?_ ?_
     rotate_left
     ·intro w'
      go_simp
      with_reducible rfl
     rotate_left
     ·simp only [Act.put, List.setIfInBounds_toArray, List.set_cons_zero, List.set_cons_succ, i64_w, i32_w]
      rfl
     refine done_ (done_of HT_.out (by kernel_rfl)) ?_
     try go_wp2
     go_ret
     exact ⟨by first | rfl | (simp [errW_none, errW_some] <;> rfl) | (simp [*, errW_none, errW_some] <;> rfl), by repeat (first | (with_reducible first | exact HB.out | apply below_alloc | apply pw_below_drewN | apply below_drew1 | refine below_set ?_ GE105.out) | exact HB.out)⟩
def plan_Valid_1.f (a0_0 : ByteArray) (a0_1 : ByteArray) (a0_2 : Int) (a1_0 : ByteArray) (a1_1 : ByteArray) (a1_2 : Int) : Option (Bool) := (plan_areApart.f a0_0 a1_0).bind fun t114 => (if t114 = true then ((plan_areApart.f a0_1 a1_1).bind fun t115 => (if t115 = true then ((plan_areApart.f a0_0 a1_1).bind fun t116 => (if t116 = true then ((plan_areApart.f a0_1 a1_0).bind fun t117 => (some t117)) else (some false))) else (some false))) else (some false))
set_option maxHeartbeats 8000000 in
set_option maxRecDepth 100000 in
theorem plan_Valid_1.calls (a0_0 : ByteArray) (a0_1 : ByteArray) (a0_2 : Int) (a1_0 : ByteArray) (a1_1 : ByteArray) (a1_2 : Int) (r : Bool) (w : World) (h : plan_Valid_1.f a0_0 a0_1 a0_2 a1_0 a1_1 a1_2 = some r) :
 Calls Tryz.prog 55 #[.agg #[.string a0_0, .string a0_1, .int .i64 a0_2], .agg #[.string a1_0, .string a1_1, .int .i64 a1_2]] w fun e w' => e = .returned (.bool r) ∧ Below w.heap.size w w' := by
 have hu29 := Tryz.underlying29
 have HB := Aside0.mk (Below.refl w.heap.size w)
 have H : ((plan_areApart.f a0_0 a1_0).bind fun t114 => (if t114 = true then ((plan_areApart.f a0_1 a1_1).bind fun t115 => (if t115 = true then ((plan_areApart.f a0_0 a1_1).bind fun t116 => (if t116 = true then ((plan_areApart.f a0_1 a1_0).bind fun t117 => (some t117)) else (some false))) else (some false))) else (some false))) = some r := h
 clear h
 replace H := Option.bind_eq_some_iff.mp H
 obtain ⟨t114, A30, H⟩ := H
 try dsimp only at H
 have A3 := Aside0.mk A30
 clear A30
 by_cases c4 : t114 = true
 ·subst c4
  rw [if_pos rfl] at H
  replace H := Option.bind_eq_some_iff.mp H
  obtain ⟨t115, A50, H⟩ := H
  try dsimp only at H
  have A5 := Aside0.mk A50
  clear A50
  by_cases c6 : t115 = true
  ·subst c6
   rw [if_pos rfl] at H
   replace H := Option.bind_eq_some_iff.mp H
   obtain ⟨t116, A70, H⟩ := H
   try dsimp only at H
   have A7 := Aside0.mk A70
   clear A70
   by_cases c8 : t116 = true
   ·subst c8
    rw [if_pos rfl] at H
    replace H := Option.bind_eq_some_iff.mp H
    obtain ⟨t117, A90, H⟩ := H
    try dsimp only at H
    have A9 := Aside0.mk A90
    clear A90
    obtain rfl := Option.some.inj H
    go_enter Tryz.func55, Tryz.ntmps55
    go_wp2_with (first | ((with_reducible refine gate_dst (N := 2) rfl ?_); refine box_event ?hg (N := 2) ?hd (cs := #[.string a0_0, .string a0_1, .int .i64 a0_2]) (t := 29) ?hr ?_; (case hd => rfl); (case hg => rfl); (case hr => exact zq0); intro gb112 hg w10 hbox hb; have n0_ := Aside0.mk (below_step (zq1) hb); have n1_ := Aside0.mk (hbox); have n2_ := Aside0.mk ((zq2 : w.heap.size ≤ gb112)); have n3_ := Aside0.mk ((zq2 : w.heap.size ≤ gb112)); clear HB; have HB := n0_; have BK112 := n1_; have GW112 := n2_; have GE112 := n3_; clear n0_ n1_ n2_ n3_; clear hb hbox hg) | ((with_reducible refine gate_dst (N := 3) rfl ?_); refine box_event ?hg (N := 3) ?hd (cs := #[.string a1_0, .string a1_1, .int .i64 a1_2]) (t := 29) ?hr ?_; (case hd => rfl); (case hg => rfl); (case hr => exact zq0); intro gb113 hg w11 hbox hb; have n0_ := Aside0.mk (blk_below (g := gb112) (o := .cells #[.string a0_0, .string a0_1, .int .i64 a0_2] 29 (0, 0)) (zq7) hb); have n1_ := Aside0.mk (below_step (zq8) hb); have n2_ := Aside0.mk (hbox); have n3_ := Aside0.mk ((zq9 : w.heap.size ≤ gb113)); have n4_ := Aside0.mk ((zq9 : w.heap.size ≤ gb113)); have n5_ := Aside0.mk ((zq10 : gb112 ≠ gb113)); have n6_ := Aside0.mk ((zq11 : gb113 ≠ gb112)); clear BK112; clear HB; have BK112 := n0_; have HB := n1_; have BK113 := n2_; have GW113 := n3_; have GE113 := n4_; have NB112_113 := n5_; have NB113_112 := n6_; clear n0_ n1_ n2_ n3_ n4_ n5_ n6_; clear hb hbox hg; have hnb12 := NB112_113.out; have hnc12 := NB113_112.out; have hcz13_0 : w11.cell? ⟨gb112, 0, none⟩ = some (.string a0_0) := (blk_cell BK112.out 0).trans rfl; have hcz13_1 : w11.cell? ⟨gb112, 1, none⟩ = some (.string a0_1) := (blk_cell BK112.out 1).trans rfl; have hcz13_2 : w11.cell? ⟨gb112, 2, none⟩ = some (.int .i64 a0_2) := (blk_cell BK112.out 2).trans rfl; have hfz13_0 := blk_frozen BK112.out 0; have hfz13_1 := blk_frozen BK112.out 1; have hfz13_2 := blk_frozen BK112.out 2; have hcz14_0 : w11.cell? ⟨gb113, 0, none⟩ = some (.string a1_0) := (blk_cell BK113.out 0).trans rfl; have hcz14_1 : w11.cell? ⟨gb113, 1, none⟩ = some (.string a1_1) := (blk_cell BK113.out 1).trans rfl; have hcz14_2 : w11.cell? ⟨gb113, 2, none⟩ = some (.int .i64 a1_2) := (blk_cell BK113.out 2).trans rfl; have hfz14_0 := blk_frozen BK113.out 0; have hfz14_1 := blk_frozen BK113.out 1; have hfz14_2 := blk_frozen BK113.out 2) | ((with_reducible refine gate_callee (f := 56) rfl ?_); refine goesL_ (some 9) rfl rfl Tryz.func56 (by kernel_rfl) rfl #[.string a0_0, .string a1_0] rfl (zq3) ?_; (with_reducible refine (plan_areApart.calls a0_0 a1_0 true _ A3.out).mono ?_); rintro e w15 ⟨rfl, hb⟩; refine ⟨_, rfl, ?_⟩; have n0_ := Aside0.mk (blk_below (g := gb112) (o := .cells #[.string a0_0, .string a0_1, .int .i64 a0_2] 29 (0, 0)) (zq7) hb); have n1_ := Aside0.mk (blk_below (g := gb113) (o := .cells #[.string a1_0, .string a1_1, .int .i64 a1_2] 29 (0, 0)) (zq12) hb); have n2_ := Aside0.mk (below_step (zq13) hb); clear BK112; clear BK113; clear HB; have BK112 := n0_; have BK113 := n1_; have HB := n2_; clear n0_ n1_ n2_; (try clear hb); (try clear hb2); (try clear hk); (try clear hi); have hcz16_0 : w15.cell? ⟨gb112, 0, none⟩ = some (.string a0_0) := (blk_cell BK112.out 0).trans rfl; have hcz16_1 : w15.cell? ⟨gb112, 1, none⟩ = some (.string a0_1) := (blk_cell BK112.out 1).trans rfl; have hcz16_2 : w15.cell? ⟨gb112, 2, none⟩ = some (.int .i64 a0_2) := (blk_cell BK112.out 2).trans rfl; have hfz16_0 := blk_frozen BK112.out 0; have hfz16_1 := blk_frozen BK112.out 1; have hfz16_2 := blk_frozen BK112.out 2; have hcz17_0 : w15.cell? ⟨gb113, 0, none⟩ = some (.string a1_0) := (blk_cell BK113.out 0).trans rfl; have hcz17_1 : w15.cell? ⟨gb113, 1, none⟩ = some (.string a1_1) := (blk_cell BK113.out 1).trans rfl; have hcz17_2 : w15.cell? ⟨gb113, 2, none⟩ = some (.int .i64 a1_2) := (blk_cell BK113.out 2).trans rfl; have hfz17_0 := blk_frozen BK113.out 0; have hfz17_1 := blk_frozen BK113.out 1; have hfz17_2 := blk_frozen BK113.out 2) | (go_at_call 56; (with_reducible refine (plan_areApart.calls a0_1 a1_1 true _ A5.out).mono ?_); rintro e w18 ⟨rfl, hb⟩; have n0_ := Aside0.mk (blk_below (g := gb112) (o := .cells #[.string a0_0, .string a0_1, .int .i64 a0_2] 29 (0, 0)) (zq7) hb); have n1_ := Aside0.mk (blk_below (g := gb113) (o := .cells #[.string a1_0, .string a1_1, .int .i64 a1_2] 29 (0, 0)) (zq12) hb); have n2_ := Aside0.mk (below_step (zq13) hb); clear BK112; clear BK113; clear HB; have BK112 := n0_; have BK113 := n1_; have HB := n2_; clear n0_ n1_ n2_; (try clear hb); (try clear hb2); (try clear hk); (try clear hi); have hcz19_0 : w18.cell? ⟨gb112, 0, none⟩ = some (.string a0_0) := (blk_cell BK112.out 0).trans rfl; have hcz19_1 : w18.cell? ⟨gb112, 1, none⟩ = some (.string a0_1) := (blk_cell BK112.out 1).trans rfl; have hcz19_2 : w18.cell? ⟨gb112, 2, none⟩ = some (.int .i64 a0_2) := (blk_cell BK112.out 2).trans rfl; have hfz19_0 := blk_frozen BK112.out 0; have hfz19_1 := blk_frozen BK112.out 1; have hfz19_2 := blk_frozen BK112.out 2; have hcz20_0 : w18.cell? ⟨gb113, 0, none⟩ = some (.string a1_0) := (blk_cell BK113.out 0).trans rfl; have hcz20_1 : w18.cell? ⟨gb113, 1, none⟩ = some (.string a1_1) := (blk_cell BK113.out 1).trans rfl; have hcz20_2 : w18.cell? ⟨gb113, 2, none⟩ = some (.int .i64 a1_2) := (blk_cell BK113.out 2).trans rfl; have hfz20_0 := blk_frozen BK113.out 0; have hfz20_1 := blk_frozen BK113.out 1; have hfz20_2 := blk_frozen BK113.out 2) | (go_at_call 56; (with_reducible refine (plan_areApart.calls a0_0 a1_1 true _ A7.out).mono ?_); rintro e w21 ⟨rfl, hb⟩; have n0_ := Aside0.mk (blk_below (g := gb112) (o := .cells #[.string a0_0, .string a0_1, .int .i64 a0_2] 29 (0, 0)) (zq7) hb); have n1_ := Aside0.mk (blk_below (g := gb113) (o := .cells #[.string a1_0, .string a1_1, .int .i64 a1_2] 29 (0, 0)) (zq12) hb); have n2_ := Aside0.mk (below_step (zq13) hb); clear BK112; clear BK113; clear HB; have BK112 := n0_; have BK113 := n1_; have HB := n2_; clear n0_ n1_ n2_; (try clear hb); (try clear hb2); (try clear hk); (try clear hi); have hcz22_0 : w21.cell? ⟨gb112, 0, none⟩ = some (.string a0_0) := (blk_cell BK112.out 0).trans rfl; have hcz22_1 : w21.cell? ⟨gb112, 1, none⟩ = some (.string a0_1) := (blk_cell BK112.out 1).trans rfl; have hcz22_2 : w21.cell? ⟨gb112, 2, none⟩ = some (.int .i64 a0_2) := (blk_cell BK112.out 2).trans rfl; have hfz22_0 := blk_frozen BK112.out 0; have hfz22_1 := blk_frozen BK112.out 1; have hfz22_2 := blk_frozen BK112.out 2; have hcz23_0 : w21.cell? ⟨gb113, 0, none⟩ = some (.string a1_0) := (blk_cell BK113.out 0).trans rfl; have hcz23_1 : w21.cell? ⟨gb113, 1, none⟩ = some (.string a1_1) := (blk_cell BK113.out 1).trans rfl; have hcz23_2 : w21.cell? ⟨gb113, 2, none⟩ = some (.int .i64 a1_2) := (blk_cell BK113.out 2).trans rfl; have hfz23_0 := blk_frozen BK113.out 0; have hfz23_1 := blk_frozen BK113.out 1; have hfz23_2 := blk_frozen BK113.out 2) | (go_at_call 56; (with_reducible refine (plan_areApart.calls a0_1 a1_0 t117 _ A9.out).mono ?_); rintro e w24 ⟨rfl, hb⟩; have n0_ := Aside0.mk (blk_below (g := gb112) (o := .cells #[.string a0_0, .string a0_1, .int .i64 a0_2] 29 (0, 0)) (zq7) hb); have n1_ := Aside0.mk (blk_below (g := gb113) (o := .cells #[.string a1_0, .string a1_1, .int .i64 a1_2] 29 (0, 0)) (zq12) hb); have n2_ := Aside0.mk (below_step (zq13) hb); clear BK112; clear BK113; clear HB; have BK112 := n0_; have BK113 := n1_; have HB := n2_; clear n0_ n1_ n2_; (try clear hb); (try clear hb2); (try clear hk); (try clear hi)))
    go_ret
    exact ⟨by first | rfl | (simp [errW_none, errW_some] <;> rfl) | (simp [*, errW_none, errW_some] <;> rfl), by repeat (first | (with_reducible first | exact HB.out | apply below_alloc | apply pw_below_drewN | apply below_drew1 | refine below_set ?_ GE112.out | refine below_set ?_ GE113.out) | exact HB.out)⟩
   ·replace c8 := Bool.eq_false_iff.mpr c8
    subst c8
    rw [if_neg (show ¬ (false = true) by decide)] at H
    obtain rfl := Option.some.inj H
    go_enter Tryz.func55, Tryz.ntmps55
    go_wp2_with (first | ((with_reducible refine gate_dst (N := 2) rfl ?_); refine box_event ?hg (N := 2) ?hd (cs := #[.string a0_0, .string a0_1, .int .i64 a0_2]) (t := 29) ?hr ?_; (case hd => rfl); (case hg => rfl); (case hr => exact zq0); intro gb112 hg w25 hbox hb; have n0_ := Aside0.mk (below_step (zq1) hb); have n1_ := Aside0.mk (hbox); have n2_ := Aside0.mk ((zq2 : w.heap.size ≤ gb112)); have n3_ := Aside0.mk ((zq2 : w.heap.size ≤ gb112)); clear HB; have HB := n0_; have BK112 := n1_; have GW112 := n2_; have GE112 := n3_; clear n0_ n1_ n2_ n3_; clear hb hbox hg) | ((with_reducible refine gate_dst (N := 3) rfl ?_); refine box_event ?hg (N := 3) ?hd (cs := #[.string a1_0, .string a1_1, .int .i64 a1_2]) (t := 29) ?hr ?_; (case hd => rfl); (case hg => rfl); (case hr => exact zq0); intro gb113 hg w26 hbox hb; have n0_ := Aside0.mk (blk_below (g := gb112) (o := .cells #[.string a0_0, .string a0_1, .int .i64 a0_2] 29 (0, 0)) (zq7) hb); have n1_ := Aside0.mk (below_step (zq8) hb); have n2_ := Aside0.mk (hbox); have n3_ := Aside0.mk ((zq9 : w.heap.size ≤ gb113)); have n4_ := Aside0.mk ((zq9 : w.heap.size ≤ gb113)); have n5_ := Aside0.mk ((zq10 : gb112 ≠ gb113)); have n6_ := Aside0.mk ((zq11 : gb113 ≠ gb112)); clear BK112; clear HB; have BK112 := n0_; have HB := n1_; have BK113 := n2_; have GW113 := n3_; have GE113 := n4_; have NB112_113 := n5_; have NB113_112 := n6_; clear n0_ n1_ n2_ n3_ n4_ n5_ n6_; clear hb hbox hg; have hnb27 := NB112_113.out; have hnc27 := NB113_112.out; have hcz28_0 : w26.cell? ⟨gb112, 0, none⟩ = some (.string a0_0) := (blk_cell BK112.out 0).trans rfl; have hcz28_1 : w26.cell? ⟨gb112, 1, none⟩ = some (.string a0_1) := (blk_cell BK112.out 1).trans rfl; have hcz28_2 : w26.cell? ⟨gb112, 2, none⟩ = some (.int .i64 a0_2) := (blk_cell BK112.out 2).trans rfl; have hfz28_0 := blk_frozen BK112.out 0; have hfz28_1 := blk_frozen BK112.out 1; have hfz28_2 := blk_frozen BK112.out 2; have hcz29_0 : w26.cell? ⟨gb113, 0, none⟩ = some (.string a1_0) := (blk_cell BK113.out 0).trans rfl; have hcz29_1 : w26.cell? ⟨gb113, 1, none⟩ = some (.string a1_1) := (blk_cell BK113.out 1).trans rfl; have hcz29_2 : w26.cell? ⟨gb113, 2, none⟩ = some (.int .i64 a1_2) := (blk_cell BK113.out 2).trans rfl; have hfz29_0 := blk_frozen BK113.out 0; have hfz29_1 := blk_frozen BK113.out 1; have hfz29_2 := blk_frozen BK113.out 2) | ((with_reducible refine gate_callee (f := 56) rfl ?_); refine goesL_ (some 9) rfl rfl Tryz.func56 (by kernel_rfl) rfl #[.string a0_0, .string a1_0] rfl (zq3) ?_; (with_reducible refine (plan_areApart.calls a0_0 a1_0 true _ A3.out).mono ?_); rintro e w30 ⟨rfl, hb⟩; refine ⟨_, rfl, ?_⟩; have n0_ := Aside0.mk (blk_below (g := gb112) (o := .cells #[.string a0_0, .string a0_1, .int .i64 a0_2] 29 (0, 0)) (zq7) hb); have n1_ := Aside0.mk (blk_below (g := gb113) (o := .cells #[.string a1_0, .string a1_1, .int .i64 a1_2] 29 (0, 0)) (zq12) hb); have n2_ := Aside0.mk (below_step (zq13) hb); clear BK112; clear BK113; clear HB; have BK112 := n0_; have BK113 := n1_; have HB := n2_; clear n0_ n1_ n2_; (try clear hb); (try clear hb2); (try clear hk); (try clear hi); have hcz31_0 : w30.cell? ⟨gb112, 0, none⟩ = some (.string a0_0) := (blk_cell BK112.out 0).trans rfl; have hcz31_1 : w30.cell? ⟨gb112, 1, none⟩ = some (.string a0_1) := (blk_cell BK112.out 1).trans rfl; have hcz31_2 : w30.cell? ⟨gb112, 2, none⟩ = some (.int .i64 a0_2) := (blk_cell BK112.out 2).trans rfl; have hfz31_0 := blk_frozen BK112.out 0; have hfz31_1 := blk_frozen BK112.out 1; have hfz31_2 := blk_frozen BK112.out 2; have hcz32_0 : w30.cell? ⟨gb113, 0, none⟩ = some (.string a1_0) := (blk_cell BK113.out 0).trans rfl; have hcz32_1 : w30.cell? ⟨gb113, 1, none⟩ = some (.string a1_1) := (blk_cell BK113.out 1).trans rfl; have hcz32_2 : w30.cell? ⟨gb113, 2, none⟩ = some (.int .i64 a1_2) := (blk_cell BK113.out 2).trans rfl; have hfz32_0 := blk_frozen BK113.out 0; have hfz32_1 := blk_frozen BK113.out 1; have hfz32_2 := blk_frozen BK113.out 2) | (go_at_call 56; (with_reducible refine (plan_areApart.calls a0_1 a1_1 true _ A5.out).mono ?_); rintro e w33 ⟨rfl, hb⟩; have n0_ := Aside0.mk (blk_below (g := gb112) (o := .cells #[.string a0_0, .string a0_1, .int .i64 a0_2] 29 (0, 0)) (zq7) hb); have n1_ := Aside0.mk (blk_below (g := gb113) (o := .cells #[.string a1_0, .string a1_1, .int .i64 a1_2] 29 (0, 0)) (zq12) hb); have n2_ := Aside0.mk (below_step (zq13) hb); clear BK112; clear BK113; clear HB; have BK112 := n0_; have BK113 := n1_; have HB := n2_; clear n0_ n1_ n2_; (try clear hb); (try clear hb2); (try clear hk); (try clear hi); have hcz34_0 : w33.cell? ⟨gb112, 0, none⟩ = some (.string a0_0) := (blk_cell BK112.out 0).trans rfl; have hcz34_1 : w33.cell? ⟨gb112, 1, none⟩ = some (.string a0_1) := (blk_cell BK112.out 1).trans rfl; have hcz34_2 : w33.cell? ⟨gb112, 2, none⟩ = some (.int .i64 a0_2) := (blk_cell BK112.out 2).trans rfl; have hfz34_0 := blk_frozen BK112.out 0; have hfz34_1 := blk_frozen BK112.out 1; have hfz34_2 := blk_frozen BK112.out 2; have hcz35_0 : w33.cell? ⟨gb113, 0, none⟩ = some (.string a1_0) := (blk_cell BK113.out 0).trans rfl; have hcz35_1 : w33.cell? ⟨gb113, 1, none⟩ = some (.string a1_1) := (blk_cell BK113.out 1).trans rfl; have hcz35_2 : w33.cell? ⟨gb113, 2, none⟩ = some (.int .i64 a1_2) := (blk_cell BK113.out 2).trans rfl; have hfz35_0 := blk_frozen BK113.out 0; have hfz35_1 := blk_frozen BK113.out 1; have hfz35_2 := blk_frozen BK113.out 2) | (go_at_call 56; (with_reducible refine (plan_areApart.calls a0_0 a1_1 false _ A7.out).mono ?_); rintro e w36 ⟨rfl, hb⟩; have n0_ := Aside0.mk (blk_below (g := gb112) (o := .cells #[.string a0_0, .string a0_1, .int .i64 a0_2] 29 (0, 0)) (zq7) hb); have n1_ := Aside0.mk (blk_below (g := gb113) (o := .cells #[.string a1_0, .string a1_1, .int .i64 a1_2] 29 (0, 0)) (zq12) hb); have n2_ := Aside0.mk (below_step (zq13) hb); clear BK112; clear BK113; clear HB; have BK112 := n0_; have BK113 := n1_; have HB := n2_; clear n0_ n1_ n2_; (try clear hb); (try clear hb2); (try clear hk); (try clear hi)))
    go_ret
    exact ⟨by first | rfl | (simp [errW_none, errW_some] <;> rfl) | (simp [*, errW_none, errW_some] <;> rfl), by repeat (first | (with_reducible first | exact HB.out | apply below_alloc | apply pw_below_drewN | apply below_drew1 | refine below_set ?_ GE112.out | refine below_set ?_ GE113.out) | exact HB.out)⟩
  ·replace c6 := Bool.eq_false_iff.mpr c6
   subst c6
   rw [if_neg (show ¬ (false = true) by decide)] at H
   obtain rfl := Option.some.inj H
   go_enter Tryz.func55, Tryz.ntmps55
   go_wp2_with (first | ((with_reducible refine gate_dst (N := 2) rfl ?_); refine box_event ?hg (N := 2) ?hd (cs := #[.string a0_0, .string a0_1, .int .i64 a0_2]) (t := 29) ?hr ?_; (case hd => rfl); (case hg => rfl); (case hr => exact zq0); intro gb112 hg w37 hbox hb; have n0_ := Aside0.mk (below_step (zq1) hb); have n1_ := Aside0.mk (hbox); have n2_ := Aside0.mk ((zq2 : w.heap.size ≤ gb112)); have n3_ := Aside0.mk ((zq2 : w.heap.size ≤ gb112)); clear HB; have HB := n0_; have BK112 := n1_; have GW112 := n2_; have GE112 := n3_; clear n0_ n1_ n2_ n3_; clear hb hbox hg) | ((with_reducible refine gate_dst (N := 3) rfl ?_); refine box_event ?hg (N := 3) ?hd (cs := #[.string a1_0, .string a1_1, .int .i64 a1_2]) (t := 29) ?hr ?_; (case hd => rfl); (case hg => rfl); (case hr => exact zq0); intro gb113 hg w38 hbox hb; have n0_ := Aside0.mk (blk_below (g := gb112) (o := .cells #[.string a0_0, .string a0_1, .int .i64 a0_2] 29 (0, 0)) (zq7) hb); have n1_ := Aside0.mk (below_step (zq8) hb); have n2_ := Aside0.mk (hbox); have n3_ := Aside0.mk ((zq9 : w.heap.size ≤ gb113)); have n4_ := Aside0.mk ((zq9 : w.heap.size ≤ gb113)); have n5_ := Aside0.mk ((zq10 : gb112 ≠ gb113)); have n6_ := Aside0.mk ((zq11 : gb113 ≠ gb112)); clear BK112; clear HB; have BK112 := n0_; have HB := n1_; have BK113 := n2_; have GW113 := n3_; have GE113 := n4_; have NB112_113 := n5_; have NB113_112 := n6_; clear n0_ n1_ n2_ n3_ n4_ n5_ n6_; clear hb hbox hg; have hnb39 := NB112_113.out; have hnc39 := NB113_112.out; have hcz40_0 : w38.cell? ⟨gb112, 0, none⟩ = some (.string a0_0) := (blk_cell BK112.out 0).trans rfl; have hcz40_1 : w38.cell? ⟨gb112, 1, none⟩ = some (.string a0_1) := (blk_cell BK112.out 1).trans rfl; have hcz40_2 : w38.cell? ⟨gb112, 2, none⟩ = some (.int .i64 a0_2) := (blk_cell BK112.out 2).trans rfl; have hfz40_0 := blk_frozen BK112.out 0; have hfz40_1 := blk_frozen BK112.out 1; have hfz40_2 := blk_frozen BK112.out 2; have hcz41_0 : w38.cell? ⟨gb113, 0, none⟩ = some (.string a1_0) := (blk_cell BK113.out 0).trans rfl; have hcz41_1 : w38.cell? ⟨gb113, 1, none⟩ = some (.string a1_1) := (blk_cell BK113.out 1).trans rfl; have hcz41_2 : w38.cell? ⟨gb113, 2, none⟩ = some (.int .i64 a1_2) := (blk_cell BK113.out 2).trans rfl; have hfz41_0 := blk_frozen BK113.out 0; have hfz41_1 := blk_frozen BK113.out 1; have hfz41_2 := blk_frozen BK113.out 2) | ((with_reducible refine gate_callee (f := 56) rfl ?_); refine goesL_ (some 9) rfl rfl Tryz.func56 (by kernel_rfl) rfl #[.string a0_0, .string a1_0] rfl (zq3) ?_; (with_reducible refine (plan_areApart.calls a0_0 a1_0 true _ A3.out).mono ?_); rintro e w42 ⟨rfl, hb⟩; refine ⟨_, rfl, ?_⟩; have n0_ := Aside0.mk (blk_below (g := gb112) (o := .cells #[.string a0_0, .string a0_1, .int .i64 a0_2] 29 (0, 0)) (zq7) hb); have n1_ := Aside0.mk (blk_below (g := gb113) (o := .cells #[.string a1_0, .string a1_1, .int .i64 a1_2] 29 (0, 0)) (zq12) hb); have n2_ := Aside0.mk (below_step (zq13) hb); clear BK112; clear BK113; clear HB; have BK112 := n0_; have BK113 := n1_; have HB := n2_; clear n0_ n1_ n2_; (try clear hb); (try clear hb2); (try clear hk); (try clear hi); have hcz43_0 : w42.cell? ⟨gb112, 0, none⟩ = some (.string a0_0) := (blk_cell BK112.out 0).trans rfl; have hcz43_1 : w42.cell? ⟨gb112, 1, none⟩ = some (.string a0_1) := (blk_cell BK112.out 1).trans rfl; have hcz43_2 : w42.cell? ⟨gb112, 2, none⟩ = some (.int .i64 a0_2) := (blk_cell BK112.out 2).trans rfl; have hfz43_0 := blk_frozen BK112.out 0; have hfz43_1 := blk_frozen BK112.out 1; have hfz43_2 := blk_frozen BK112.out 2; have hcz44_0 : w42.cell? ⟨gb113, 0, none⟩ = some (.string a1_0) := (blk_cell BK113.out 0).trans rfl; have hcz44_1 : w42.cell? ⟨gb113, 1, none⟩ = some (.string a1_1) := (blk_cell BK113.out 1).trans rfl; have hcz44_2 : w42.cell? ⟨gb113, 2, none⟩ = some (.int .i64 a1_2) := (blk_cell BK113.out 2).trans rfl; have hfz44_0 := blk_frozen BK113.out 0; have hfz44_1 := blk_frozen BK113.out 1; have hfz44_2 := blk_frozen BK113.out 2) | (go_at_call 56; (with_reducible refine (plan_areApart.calls a0_1 a1_1 false _ A5.out).mono ?_); rintro e w45 ⟨rfl, hb⟩; have n0_ := Aside0.mk (blk_below (g := gb112) (o := .cells #[.string a0_0, .string a0_1, .int .i64 a0_2] 29 (0, 0)) (zq7) hb); have n1_ := Aside0.mk (blk_below (g := gb113) (o := .cells #[.string a1_0, .string a1_1, .int .i64 a1_2] 29 (0, 0)) (zq12) hb); have n2_ := Aside0.mk (below_step (zq13) hb); clear BK112; clear BK113; clear HB; have BK112 := n0_; have BK113 := n1_; have HB := n2_; clear n0_ n1_ n2_; (try clear hb); (try clear hb2); (try clear hk); (try clear hi)))
   go_ret
   exact ⟨by first | rfl | (simp [errW_none, errW_some] <;> rfl) | (simp [*, errW_none, errW_some] <;> rfl), by repeat (first | (with_reducible first | exact HB.out | apply below_alloc | apply pw_below_drewN | apply below_drew1 | refine below_set ?_ GE112.out | refine below_set ?_ GE113.out) | exact HB.out)⟩
 ·replace c4 := Bool.eq_false_iff.mpr c4
  subst c4
  rw [if_neg (show ¬ (false = true) by decide)] at H
  obtain rfl := Option.some.inj H
  go_enter Tryz.func55, Tryz.ntmps55
  go_wp2_with (first | ((with_reducible refine gate_dst (N := 2) rfl ?_); refine box_event ?hg (N := 2) ?hd (cs := #[.string a0_0, .string a0_1, .int .i64 a0_2]) (t := 29) ?hr ?_; (case hd => rfl); (case hg => rfl); (case hr => exact zq0); intro gb112 hg w46 hbox hb; have n0_ := Aside0.mk (below_step (zq1) hb); have n1_ := Aside0.mk (hbox); have n2_ := Aside0.mk ((zq2 : w.heap.size ≤ gb112)); have n3_ := Aside0.mk ((zq2 : w.heap.size ≤ gb112)); clear HB; have HB := n0_; have BK112 := n1_; have GW112 := n2_; have GE112 := n3_; clear n0_ n1_ n2_ n3_; clear hb hbox hg) | ((with_reducible refine gate_dst (N := 3) rfl ?_); refine box_event ?hg (N := 3) ?hd (cs := #[.string a1_0, .string a1_1, .int .i64 a1_2]) (t := 29) ?hr ?_; (case hd => rfl); (case hg => rfl); (case hr => exact zq0); intro gb113 hg w47 hbox hb; have n0_ := Aside0.mk (blk_below (g := gb112) (o := .cells #[.string a0_0, .string a0_1, .int .i64 a0_2] 29 (0, 0)) (zq7) hb); have n1_ := Aside0.mk (below_step (zq8) hb); have n2_ := Aside0.mk (hbox); have n3_ := Aside0.mk ((zq9 : w.heap.size ≤ gb113)); have n4_ := Aside0.mk ((zq9 : w.heap.size ≤ gb113)); have n5_ := Aside0.mk ((zq10 : gb112 ≠ gb113)); have n6_ := Aside0.mk ((zq11 : gb113 ≠ gb112)); clear BK112; clear HB; have BK112 := n0_; have HB := n1_; have BK113 := n2_; have GW113 := n3_; have GE113 := n4_; have NB112_113 := n5_; have NB113_112 := n6_; clear n0_ n1_ n2_ n3_ n4_ n5_ n6_; clear hb hbox hg; have hnb48 := NB112_113.out; have hnc48 := NB113_112.out; have hcz49_0 : w47.cell? ⟨gb112, 0, none⟩ = some (.string a0_0) := (blk_cell BK112.out 0).trans rfl; have hcz49_1 : w47.cell? ⟨gb112, 1, none⟩ = some (.string a0_1) := (blk_cell BK112.out 1).trans rfl; have hcz49_2 : w47.cell? ⟨gb112, 2, none⟩ = some (.int .i64 a0_2) := (blk_cell BK112.out 2).trans rfl; have hfz49_0 := blk_frozen BK112.out 0; have hfz49_1 := blk_frozen BK112.out 1; have hfz49_2 := blk_frozen BK112.out 2; have hcz50_0 : w47.cell? ⟨gb113, 0, none⟩ = some (.string a1_0) := (blk_cell BK113.out 0).trans rfl; have hcz50_1 : w47.cell? ⟨gb113, 1, none⟩ = some (.string a1_1) := (blk_cell BK113.out 1).trans rfl; have hcz50_2 : w47.cell? ⟨gb113, 2, none⟩ = some (.int .i64 a1_2) := (blk_cell BK113.out 2).trans rfl; have hfz50_0 := blk_frozen BK113.out 0; have hfz50_1 := blk_frozen BK113.out 1; have hfz50_2 := blk_frozen BK113.out 2) | ((with_reducible refine gate_callee (f := 56) rfl ?_); refine goesL_ (some 9) rfl rfl Tryz.func56 (by kernel_rfl) rfl #[.string a0_0, .string a1_0] rfl (zq3) ?_; (with_reducible refine (plan_areApart.calls a0_0 a1_0 false _ A3.out).mono ?_); rintro e w51 ⟨rfl, hb⟩; refine ⟨_, rfl, ?_⟩; have n0_ := Aside0.mk (blk_below (g := gb112) (o := .cells #[.string a0_0, .string a0_1, .int .i64 a0_2] 29 (0, 0)) (zq7) hb); have n1_ := Aside0.mk (blk_below (g := gb113) (o := .cells #[.string a1_0, .string a1_1, .int .i64 a1_2] 29 (0, 0)) (zq12) hb); have n2_ := Aside0.mk (below_step (zq13) hb); clear BK112; clear BK113; clear HB; have BK112 := n0_; have BK113 := n1_; have HB := n2_; clear n0_ n1_ n2_; (try clear hb); (try clear hb2); (try clear hk); (try clear hi)))
  go_ret
  exact ⟨by first | rfl | (simp [errW_none, errW_some] <;> rfl) | (simp [*, errW_none, errW_some] <;> rfl), by repeat (first | (with_reducible first | exact HB.out | apply below_alloc | apply pw_below_drewN | apply below_drew1 | refine below_set ?_ GE112.out | refine below_set ?_ GE113.out) | exact HB.out)⟩
end Go.Proofs.YtlmfoblgheepoaaGreatDoor.Pl
end
section
open Go.Proofs.YtlmfoblgheepoaaGreatDoor.Z
namespace Go.Proofs.YtlmfoblgheepoaaGreatDoor.Pl
open Go.RowKit Go.Proofs.YtlmfoblgheepoaaGreatDoorW.PrintWords Go.Proofs.YtlmfoblgheepoaaGreatDoorW.PrintLast Go.Proofs.YtlmfoblgheepoaaGreatDoorW.PrintMore
attribute [local go_sem] max2_int min2_int max_two min_two max_three min_three max_four min_four
set_option linter.unusedVariables false
set_option linter.unusedSimpArgs false
mutual
def api_Code.l0 : Nat → List (S29) → List (S29) → Int → Int → Option (Bool)
 | 0, _, _, _, _ => none
 | k + 1, x0, x9, x10, x11 => if x11 < x10 then (if 0 ≤ x11 then (if x11 < (x9.length : Int) then (if x11 ≤ (x0.length : Int) then ((some (x0.take (x11 : Int).toNat : List (S29))).bind fun y120 => (api_Code.l1 k x0 x9 x10 x11 y120 (y120.length : Int) 0 ((rd_T29 x9 x11).f0) ((rd_T29 x9 x11).f1) ((rd_T29 x9 x11).f2))) else (none)) else (none)) else (none)) else (some true)
def api_Code.l1 : Nat → List (S29) → List (S29) → Int → Int → List (S29) → Int → Int → ByteArray → ByteArray → Int → Option (Bool)
 | 0, _, _, _, _, _, _, _, _, _, _ => none
 | k + 1, x0, x9, x10, x11, x18, x19, x20, x120000, x120001, x120002 => if x20 < x19 then (if 0 ≤ x20 then (if x20 < (x18.length : Int) then ((plan_Valid_1.f x120000 x120001 x120002 ((rd_T29 x18 x20).f0) ((rd_T29 x18 x20).f1) ((rd_T29 x18 x20).f2)).bind fun t126 => (if t126 = true then (api_Code.l1 k x0 x9 x10 x11 x18 x19 (wrap64 (x20 + 1)) x120000 x120001 x120002) else (some false))) else (none)) else (none)) else (api_Code.l0 k x0 x9 x10 (wrap64 (x11 + 1)))
end
def api_Code.f (k : Nat) (l0 : List (S29)) (a1 : Unit) : Option (Bool) := api_Code.l0 k l0 l0 (l0.length : Int) 0
theorem api_Code.mono_l : ∀ k, (∀ y0 y1 y2 y3, LeO (api_Code.l0 k y0 y1 y2 y3) (api_Code.l0 (k + 1) y0 y1 y2 y3)) ∧ (∀ y0 y1 y2 y3 y4 y5 y6 y7 y8 y9, LeO (api_Code.l1 k y0 y1 y2 y3 y4 y5 y6 y7 y8 y9) (api_Code.l1 (k + 1) y0 y1 y2 y3 y4 y5 y6 y7 y8 y9))
 | 0 => ⟨fun _ _ _ _ r h => by simp [api_Code.l0] at h, fun _ _ _ _ _ _ _ _ _ _ r h => by simp [api_Code.l1] at h⟩
 | k + 1 => by
  obtain ⟨ih0, ih1⟩ := api_Code.mono_l k
  refine ⟨?_, ?_⟩
  ·intro y0 y1 y2 y3
   unfold api_Code.l0
   repeat' first
   | (with_reducible exact ih0 _ _ _ _)
   | (with_reducible exact ih1 _ _ _ _ _ _ _ _ _ _)
   | (with_reducible exact LeO.refl _)
   | (with_reducible exact LeO.none _)
   | (with_reducible refine LeO.ite ?_ ?_)
   | (with_reducible refine LeO.bind ?_ (fun _ => ?_))
   | exact ih0 _ _ _ _
   | exact ih1 _ _ _ _ _ _ _ _ _ _
   | exact LeO.none _
   | refine LeO.ite ?_ ?_
   | refine LeO.bind ?_ (fun _ => ?_)
  ·intro y0 y1 y2 y3 y4 y5 y6 y7 y8 y9
   unfold api_Code.l1
   repeat' first
   | (with_reducible exact ih0 _ _ _ _)
   | (with_reducible exact ih1 _ _ _ _ _ _ _ _ _ _)
   | (with_reducible exact LeO.refl _)
   | (with_reducible exact LeO.none _)
   | (with_reducible refine LeO.ite ?_ ?_)
   | (with_reducible refine LeO.bind ?_ (fun _ => ?_))
   | exact ih0 _ _ _ _
   | exact ih1 _ _ _ _ _ _ _ _ _ _
   | exact LeO.none _
   | refine LeO.ite ?_ ?_
   | refine LeO.bind ?_ (fun _ => ?_)
theorem api_Code.mono : ∀ a0 a1 k, LeO (api_Code.f k a0 a1) (api_Code.f (k + 1) a0 a1) := by
 intro a0 a1 k
 obtain ⟨ih0, ih1⟩ := api_Code.mono_l k
 unfold api_Code.f
 repeat' first
  | (with_reducible exact ih0 _ _ _ _)
  | (with_reducible exact ih1 _ _ _ _ _ _ _ _ _ _)
  | (with_reducible exact LeO.refl _)
  | (with_reducible exact LeO.none _)
  | (with_reducible refine LeO.ite ?_ ?_)
  | (with_reducible refine LeO.bind ?_ (fun _ => ?_))
  | exact ih0 _ _ _ _
  | exact ih1 _ _ _ _ _ _ _ _ _ _
  | exact LeO.none _
  | refine LeO.ite ?_ ?_
  | refine LeO.bind ?_ (fun _ => ?_)
set_option maxHeartbeats 8000000 in
set_option maxRecDepth 100000 in
theorem api_Code.calls (k : Nat) (A0 : Option Addr) (c0 : Nat) (l0 : List (S29)) (a1 : Unit) (r : Bool) (w : World) (hr0 : Kd.C k29 w A0 l0.length l0) (hc0 : l0.length ≤ c0) (h : api_Code.f k l0 a1 = some r) :
 Calls Tryz.prog 57 #[.slice A0 l0.length c0, (Value.func (.func 55) #[] #[])] w fun e w' => e = .returned (.bool r) ∧ Below w.heap.size w w' := by
 have hu29 := Tryz.underlying29
 have HR0 := Aside0.mk hr0
 have HC0 := Aside0.mk hc0
 clear hr0 hc0
 have HB := Aside0.mk (Below.refl w.heap.size w)
 have H : (api_Code.l0 k l0 l0 (l0.length : Int) 0) = some r := h
 clear h
 have H' := Aside0.mk H
 clear H
 go_enter Tryz.func57, Tryz.ntmps57
 go_wp2
 go_loopg [11] k (fun kq v11 w' => ∃ (x11_1 : Int), v11 = .int .i64 x11_1 ∧ Aside0 (api_Code.l0 kq l0 l0 (l0.length : Int) x11_1 = some r) ∧ Aside0 (kq ≤ k) ∧ Aside0 (Below w.heap.size w w'))
 case atStart => exact ⟨(0), (zq6), H', ⟨Nat.le_refl _⟩, ⟨by repeat (first | (with_reducible first | exact HB.out | apply below_alloc | apply pw_below_drewN | apply below_drew1) | exact HB.out)⟩⟩
 case round =>
  clear H'
  try clear p2
  obtain ⟨x11_1, rfl, HA, HK1, HB⟩ := hrel
  cases gk with
  | zero => exact absurd HA.out (by simp [api_Code.l0])
  | succ k1 =>
   have H := HA.out
   clear HA
   simp only [api_Code.l0] at H
   by_cases c3 : x11_1 < (l0.length : Int)
   ·rw [if_pos c3] at H
    have c3b0 : decide (x11_1 < (l0.length : Int)) = true := decide_eq_true c3
    clear c3
    by_cases c4 : 0 ≤ x11_1
    ·rw [if_pos c4] at H
     have c4b0 : decide (0 ≤ x11_1) = true := decide_eq_true c4
     clear c4
     by_cases c5 : x11_1 < (l0.length : Int)
     ·rw [if_pos c5] at H
      have c5b0 : decide (x11_1 < (l0.length : Int)) = true := decide_eq_true c5
      clear c5
      have c6b0 := eq_true (of_decide_eq_true (zq14) : 0 ≤ x11_1)
      by_cases c7 : x11_1 ≤ (l0.length : Int)
      ·rw [if_pos c7] at H
       have c7b0 := eq_true c7
       have c7b1 : decide (x11_1 ≤ (l0.length : Int)) = true := decide_eq_true c7
       clear c7
       obtain ⟨y120, hy120⟩ : ∃ y_ : List (S29), y_ = (l0.take (x11_1 : Int).toNat) := ⟨_, rfl⟩
       replace H : (api_Code.l1 k1 l0 l0 (l0.length : Int) x11_1 y120 (y120.length : Int) 0 ((rd_T29 l0 x11_1).f0) ((rd_T29 l0 x11_1).f1) ((rd_T29 l0 x11_1).f2)) = some r := by first | (rw [hy120]; with_reducible exact H) | (have H2_ := (Option.bind_some _ _).symm.trans H; rw [hy120]; with_reducible exact H2_) | (have H2_ := (Option.bind_some _ _).symm.trans H; with_reducible exact H2_) | with_reducible exact H | (rw [hy120]; exact H) | exact H
       have Ny120 := Aside0.mk hy120
       clear hy120
       have H' := Aside0.mk H
       clear H
       have p118 : 0 ≤ (x11_1 : Int) := of_decide_eq_true (zq14)
       have q118 : x11_1 < (l0.length : Int) := of_decide_eq_true (zq14)
       obtain ⟨ad118, e118, hx118_0, hx118_1, hx118_2⟩ := at_T29 HR0.out x11_1 p118 q118
       cases e118
       replace hx118_0 := (HB.out.cell (World.block_lt_of_cell? w _ hx118_0)).trans hx118_0
       replace hx118_1 := (HB.out.cell (World.block_lt_of_cell? w _ hx118_1)).trans hx118_1
       replace hx118_2 := (HB.out.cell (World.block_lt_of_cell? w _ hx118_2)).trans hx118_2
       replace p118 := eq_true p118
       replace q118 := eq_true q118
       go_wp2_with (first | ((with_reducible refine gate_dst (N := 6) rfl ?_); refine box_event ?hg (N := 6) ?hd (cs := #[.string (⟨#[]⟩ : ByteArray), .string (⟨#[]⟩ : ByteArray), .int .i64 0]) (t := 29) ?hr ?_; (case hd => rfl); (case hg => rfl); (case hr => exact zq0); intro gb119 hg w8 hbox hb; have n0_ := Aside0.mk (below_step (zq1) hb); have n1_ := Aside0.mk (hbox); have n2_ := Aside0.mk ((zq2 : w.heap.size ≤ gb119)); have n3_ := Aside0.mk ((zq2 : w.heap.size ≤ gb119)); clear HB; have HB := n0_; have BK119 := n1_; have GW119 := n2_; have GE119 := n3_; clear n0_ n1_ n2_ n3_; clear hb hbox hg; have hcz9_0 : w8.cell? ⟨gb119, 0, none⟩ = some (.string (⟨#[]⟩ : ByteArray)) := (blk_cell BK119.out 0).trans rfl; have hcz9_1 : w8.cell? ⟨gb119, 1, none⟩ = some (.string (⟨#[]⟩ : ByteArray)) := (blk_cell BK119.out 1).trans rfl; have hcz9_2 : w8.cell? ⟨gb119, 2, none⟩ = some (.int .i64 0) := (blk_cell BK119.out 2).trans rfl; have hfz9_0 := blk_frozen BK119.out 0; have hfz9_1 := blk_frozen BK119.out 1; have hfz9_2 := blk_frozen BK119.out 2) | ((with_reducible refine gate_store (t := 29) (p := 6) rfl ?_); refine store_event (t := 29) (p := 6) (v := ?vo_w10) (w1 := (((w8.setCell ⟨gb119, 0, none⟩ (.string ((rd_T29 l0 x11_1).f0))).setCell ⟨gb119, 1, none⟩ (.string ((rd_T29 l0 x11_1).f1))).setCell ⟨gb119, 2, none⟩ (.int .i64 ((rd_T29 l0 x11_1).f2)))) ?hg ?ho ?hn ?hr ?_; (case ho => rfl); (case hg => rfl); (case hn => rfl); (case hr => exact zq0); intro w10 hw; have n0_ : Aside0 (w10.heap[gb119]? = some (.cells #[.string ((rd_T29 l0 x11_1).f0), .string ((rd_T29 l0 x11_1).f1), .int .i64 ((rd_T29 l0 x11_1).f2)] 29 (0, 0))) := ⟨(by rw [hw]; exact (by (with_reducible repeat (first | refine blk_drewN ?_ _ | refine blk_drew ?_ | refine blk_alloc ?_ _)); refine blk_put (cs := #[.string ((rd_T29 l0 x11_1).f0), .string ((rd_T29 l0 x11_1).f1), .int .i64 0]) ?_ 2 _ rfl; (with_reducible repeat (first | refine blk_drewN ?_ _ | refine blk_drew ?_ | refine blk_alloc ?_ _)); refine blk_put (cs := #[.string ((rd_T29 l0 x11_1).f0), .string (⟨#[]⟩ : ByteArray), .int .i64 0]) ?_ 1 _ rfl; (with_reducible repeat (first | refine blk_drewN ?_ _ | refine blk_drew ?_ | refine blk_alloc ?_ _)); refine blk_put (cs := #[.string (⟨#[]⟩ : ByteArray), .string (⟨#[]⟩ : ByteArray), .int .i64 0]) ?_ 0 _ rfl; (with_reducible repeat (first | refine blk_drewN ?_ _ | refine blk_drew ?_ | refine blk_alloc ?_ _)); exact BK119.out))⟩; have n1_ : Aside0 (Below w.heap.size w w10) := ⟨(by rw [hw]; exact (zq15))⟩; clear hw; clear BK119; clear HB; have BK119 := n0_; have HB := n1_; clear n0_ n1_; have q11 : (x11_1 : Int) ≤ ((l0.length : Int) : Int) := of_decide_eq_true (zq14); obtain ⟨i011, hi011, _, hsz11, _⟩ := info_parts info29; have hroom11 : l0.length ≤ c0 := HC0.out; have hC11 : Kd.C k29 _ (some ad118) l0.length l0 := HR0.out; have hcut11 := cut_to (P := Tryz.prog) 24 29 .i64 Tryz.underlying24 hi011 (some ad118) l0.length c0 x11_1 (of_decide_eq_true (zq14)) q11 hroom11; have hr11 := Kd.C_take (m := (x11_1 : Int).toNat) hC11 (by omega); have hy11 : y120.length = (x11_1 : Int).toNat := (by rw [Ny120.out, List.length_take]; omega); rw [← Ny120.out] at hr11; rw [← hy11] at hcut11; have HR123 := Aside0.mk hr11; have HC123 := Aside0.mk (show y120.length ≤ c0 from by omega); clear hr11 hC11 hroom11 hi011 hsz11; have KY11 := Aside0.mk hy11; clear hy11; replace q11 := eq_true q11))
       go_loopg [20] k1 (fun kq v20 w' => ∃ (x20_2 : Int), v20 = .int .i64 x20_2 ∧ Aside0 (api_Code.l1 kq l0 l0 (l0.length : Int) x11_1 y120 (y120.length : Int) x20_2 ((rd_T29 l0 x11_1).f0) ((rd_T29 l0 x11_1).f1) ((rd_T29 l0 x11_1).f2) = some r) ∧ Aside0 (kq ≤ k1) ∧ Aside0 (w'.heap[gb119]? = some (.cells #[.string ((rd_T29 l0 x11_1).f0), .string ((rd_T29 l0 x11_1).f1), .int .i64 ((rd_T29 l0 x11_1).f2)] 29 (0, 0))) ∧ Aside0 (Below w.heap.size w w'))
       case atStart => exact ⟨(0), (zq6), H', ⟨Nat.le_refl _⟩, ⟨by (with_reducible repeat (first | refine blk_drewN ?_ _ | refine blk_drew ?_ | refine blk_alloc ?_ _)); exact BK119.out⟩, ⟨by repeat (first | (with_reducible first | exact HB.out | apply below_alloc | apply pw_below_drewN | apply below_drew1 | refine below_set ?_ GE119.out) | exact HB.out)⟩⟩
       case round =>
        clear H'
        try clear p1
        try clear q1
        try clear hx1
        try clear p2
        try clear c3
        try clear c3b0
        try clear c4
        try clear c4b0
        try clear c5
        try clear c5b0
        try clear c6
        try clear c6b0
        try clear c7
        try clear c7b0
        try clear c7b1
        try clear p11
        try clear q11
        try clear hx11
        try clear hcz9_0
        try clear hcz9_1
        try clear hcz9_2
        try clear hfz9_0
        try clear hfz9_1
        try clear hfz9_2
        try clear hx118_0
        try clear hx118_1
        try clear hx118_2
        try clear p118
        try clear p2
        try clear q11
        try clear q118
        obtain ⟨x20_2, rfl, HA, HK2, BK119, HB⟩ := hrel
        cases gk with
        | zero => exact absurd HA.out (by simp [api_Code.l1])
        | succ k2 =>
         have H := HA.out
         clear HA
         simp only [api_Code.l1] at H
         by_cases c12 : x20_2 < (y120.length : Int)
         ·rw [if_pos c12] at H
          have c12b0 : decide (x20_2 < (y120.length : Int)) = true := decide_eq_true c12
          clear c12
          by_cases c13 : 0 ≤ x20_2
          ·rw [if_pos c13] at H
           have c13b0 : decide (0 ≤ x20_2) = true := decide_eq_true c13
           clear c13
           by_cases c14 : x20_2 < (y120.length : Int)
           ·rw [if_pos c14] at H
            have c14b0 : decide (x20_2 < (y120.length : Int)) = true := decide_eq_true c14
            clear c14
            replace H := Option.bind_eq_some_iff.mp H
            obtain ⟨t126, A150, H⟩ := H
            try dsimp only at H
            have A15 := Aside0.mk A150
            clear A150
            by_cases c16 : t126 = true
            ·subst c16
             rw [if_pos rfl] at H
             have H' := Aside0.mk H
             clear H
             have p124 : 0 ≤ (x20_2 : Int) := of_decide_eq_true (zq14)
             have q124 : x20_2 < (y120.length : Int) := of_decide_eq_true (zq14)
             obtain ⟨ad124, e124, hx124_0, hx124_1, hx124_2⟩ := at_T29 HR123.out x20_2 p124 q124
             obtain rfl : ad118 = ad124 := (by injection e124)
             replace hx124_0 := (HB.out.cell (World.block_lt_of_cell? w _ hx124_0)).trans hx124_0
             replace hx124_1 := (HB.out.cell (World.block_lt_of_cell? w _ hx124_1)).trans hx124_1
             replace hx124_2 := (HB.out.cell (World.block_lt_of_cell? w _ hx124_2)).trans hx124_2
             replace p124 := eq_true p124
             replace q124 := eq_true q124
             go_wp2_with (first | ((with_reducible refine gate_dst (N := 8) rfl ?_); refine box_event ?hg (N := 8) ?hd (cs := #[.string (⟨#[]⟩ : ByteArray), .string (⟨#[]⟩ : ByteArray), .int .i64 0]) (t := 29) ?hr ?_; (case hd => rfl); (case hg => rfl); (case hr => exact zq0); intro gb125 hg w17 hbox hb; have n0_ := Aside0.mk (blk_below (g := gb119) (o := .cells #[.string ((rd_T29 l0 x11_1).f0), .string ((rd_T29 l0 x11_1).f1), .int .i64 ((rd_T29 l0 x11_1).f2)] 29 (0, 0)) (zq16) hb); have n1_ := Aside0.mk (below_step (zq15) hb); have n2_ := Aside0.mk (hbox); have n3_ := Aside0.mk ((zq17 : w.heap.size ≤ gb125)); have n4_ := Aside0.mk ((zq17 : w.heap.size ≤ gb125)); have n5_ := Aside0.mk ((zq18 : gb119 ≠ gb125)); have n6_ := Aside0.mk ((zq19 : gb125 ≠ gb119)); clear BK119; clear HB; have BK119 := n0_; have HB := n1_; have BK125 := n2_; have GW125 := n3_; have GE125 := n4_; have NB119_125 := n5_; have NB125_119 := n6_; clear n0_ n1_ n2_ n3_ n4_ n5_ n6_; clear hb hbox hg; have hnb18 := NB125_119.out; have hnc18 := NB119_125.out; have hcz19_0 : w17.cell? ⟨gb125, 0, none⟩ = some (.string (⟨#[]⟩ : ByteArray)) := (blk_cell BK125.out 0).trans rfl; have hcz19_1 : w17.cell? ⟨gb125, 1, none⟩ = some (.string (⟨#[]⟩ : ByteArray)) := (blk_cell BK125.out 1).trans rfl; have hcz19_2 : w17.cell? ⟨gb125, 2, none⟩ = some (.int .i64 0) := (blk_cell BK125.out 2).trans rfl; have hfz19_0 := blk_frozen BK125.out 0; have hfz19_1 := blk_frozen BK125.out 1; have hfz19_2 := blk_frozen BK125.out 2; have hcz20_0 : w17.cell? ⟨gb119, 0, none⟩ = some (.string ((rd_T29 l0 x11_1).f0)) := (blk_cell BK119.out 0).trans rfl; have hcz20_1 : w17.cell? ⟨gb119, 1, none⟩ = some (.string ((rd_T29 l0 x11_1).f1)) := (blk_cell BK119.out 1).trans rfl; have hcz20_2 : w17.cell? ⟨gb119, 2, none⟩ = some (.int .i64 ((rd_T29 l0 x11_1).f2)) := (blk_cell BK119.out 2).trans rfl; have hfz20_0 := blk_frozen BK119.out 0; have hfz20_1 := blk_frozen BK119.out 1; have hfz20_2 := blk_frozen BK119.out 2) | (go_at_call 55; (with_reducible refine (plan_Valid_1.calls ((rd_T29 l0 x11_1).f0) ((rd_T29 l0 x11_1).f1) ((rd_T29 l0 x11_1).f2) ((rd_T29 y120 x20_2).f0) ((rd_T29 y120 x20_2).f1) ((rd_T29 y120 x20_2).f2) true _ A15.out).mono ?_); rintro e w21 ⟨rfl, hb⟩; have n0_ := Aside0.mk (blk_below (g := gb119) (o := .cells #[.string ((rd_T29 l0 x11_1).f0), .string ((rd_T29 l0 x11_1).f1), .int .i64 ((rd_T29 l0 x11_1).f2)] 29 (0, 0)) (zq20) hb); have n1_ := Aside0.mk (blk_below (g := gb125) (o := .cells #[.string ((rd_T29 y120 x20_2).f0), .string ((rd_T29 y120 x20_2).f1), .int .i64 ((rd_T29 y120 x20_2).f2)] 29 (0, 0)) (zq21) hb); have n2_ := Aside0.mk (below_step (zq22) hb); clear BK119; clear BK125; clear HB; have BK119 := n0_; have BK125 := n1_; have HB := n2_; clear n0_ n1_ n2_; (try clear hb); (try clear hb2); (try clear hk); (try clear hi)))
             go_roundg k2
             case measure => have := HK1.out; have := HK2.out; omega
             case rel => exact ⟨(wrap64 (x20_2 + 1)), (zq6), H', ⟨by have := HK1.out; have := HK2.out; omega⟩, ⟨by (with_reducible repeat (first | refine blk_drewN ?_ _ | refine blk_drew ?_ | refine blk_alloc ?_ _)); exact BK119.out⟩, ⟨by repeat (first | (with_reducible first | exact HB.out | apply below_alloc | apply pw_below_drewN | apply below_drew1 | refine below_set ?_ GE119.out | refine below_set ?_ GE125.out) | exact HB.out)⟩⟩
            ·replace c16 := Bool.eq_false_iff.mpr c16
             subst c16
             rw [if_neg (show ¬ (false = true) by decide)] at H
             obtain rfl := Option.some.inj H
             have p124 : 0 ≤ (x20_2 : Int) := of_decide_eq_true (zq14)
             have q124 : x20_2 < (y120.length : Int) := of_decide_eq_true (zq14)
             obtain ⟨ad124, e124, hx124_0, hx124_1, hx124_2⟩ := at_T29 HR123.out x20_2 p124 q124
             obtain rfl : ad118 = ad124 := (by injection e124)
             replace hx124_0 := (HB.out.cell (World.block_lt_of_cell? w _ hx124_0)).trans hx124_0
             replace hx124_1 := (HB.out.cell (World.block_lt_of_cell? w _ hx124_1)).trans hx124_1
             replace hx124_2 := (HB.out.cell (World.block_lt_of_cell? w _ hx124_2)).trans hx124_2
             replace p124 := eq_true p124
             replace q124 := eq_true q124
             go_wp2_with (first | ((with_reducible refine gate_dst (N := 8) rfl ?_); refine box_event ?hg (N := 8) ?hd (cs := #[.string (⟨#[]⟩ : ByteArray), .string (⟨#[]⟩ : ByteArray), .int .i64 0]) (t := 29) ?hr ?_; (case hd => rfl); (case hg => rfl); (case hr => exact zq0); intro gb125 hg w22 hbox hb; have n0_ := Aside0.mk (blk_below (g := gb119) (o := .cells #[.string ((rd_T29 l0 x11_1).f0), .string ((rd_T29 l0 x11_1).f1), .int .i64 ((rd_T29 l0 x11_1).f2)] 29 (0, 0)) (zq16) hb); have n1_ := Aside0.mk (below_step (zq15) hb); have n2_ := Aside0.mk (hbox); have n3_ := Aside0.mk ((zq17 : w.heap.size ≤ gb125)); have n4_ := Aside0.mk ((zq17 : w.heap.size ≤ gb125)); have n5_ := Aside0.mk ((zq18 : gb119 ≠ gb125)); have n6_ := Aside0.mk ((zq19 : gb125 ≠ gb119)); clear BK119; clear HB; have BK119 := n0_; have HB := n1_; have BK125 := n2_; have GW125 := n3_; have GE125 := n4_; have NB119_125 := n5_; have NB125_119 := n6_; clear n0_ n1_ n2_ n3_ n4_ n5_ n6_; clear hb hbox hg; have hnb23 := NB125_119.out; have hnc23 := NB119_125.out; have hcz24_0 : w22.cell? ⟨gb125, 0, none⟩ = some (.string (⟨#[]⟩ : ByteArray)) := (blk_cell BK125.out 0).trans rfl; have hcz24_1 : w22.cell? ⟨gb125, 1, none⟩ = some (.string (⟨#[]⟩ : ByteArray)) := (blk_cell BK125.out 1).trans rfl; have hcz24_2 : w22.cell? ⟨gb125, 2, none⟩ = some (.int .i64 0) := (blk_cell BK125.out 2).trans rfl; have hfz24_0 := blk_frozen BK125.out 0; have hfz24_1 := blk_frozen BK125.out 1; have hfz24_2 := blk_frozen BK125.out 2; have hcz25_0 : w22.cell? ⟨gb119, 0, none⟩ = some (.string ((rd_T29 l0 x11_1).f0)) := (blk_cell BK119.out 0).trans rfl; have hcz25_1 : w22.cell? ⟨gb119, 1, none⟩ = some (.string ((rd_T29 l0 x11_1).f1)) := (blk_cell BK119.out 1).trans rfl; have hcz25_2 : w22.cell? ⟨gb119, 2, none⟩ = some (.int .i64 ((rd_T29 l0 x11_1).f2)) := (blk_cell BK119.out 2).trans rfl; have hfz25_0 := blk_frozen BK119.out 0; have hfz25_1 := blk_frozen BK119.out 1; have hfz25_2 := blk_frozen BK119.out 2) | (go_at_call 55; (with_reducible refine (plan_Valid_1.calls ((rd_T29 l0 x11_1).f0) ((rd_T29 l0 x11_1).f1) ((rd_T29 l0 x11_1).f2) ((rd_T29 y120 x20_2).f0) ((rd_T29 y120 x20_2).f1) ((rd_T29 y120 x20_2).f2) false _ A15.out).mono ?_); rintro e w26 ⟨rfl, hb⟩; have n0_ := Aside0.mk (blk_below (g := gb119) (o := .cells #[.string ((rd_T29 l0 x11_1).f0), .string ((rd_T29 l0 x11_1).f1), .int .i64 ((rd_T29 l0 x11_1).f2)] 29 (0, 0)) (zq20) hb); have n1_ := Aside0.mk (blk_below (g := gb125) (o := .cells #[.string ((rd_T29 y120 x20_2).f0), .string ((rd_T29 y120 x20_2).f1), .int .i64 ((rd_T29 y120 x20_2).f2)] 29 (0, 0)) (zq21) hb); have n2_ := Aside0.mk (below_step (zq22) hb); clear BK119; clear BK125; clear HB; have BK119 := n0_; have BK125 := n1_; have HB := n2_; clear n0_ n1_ n2_; (try clear hb); (try clear hb2); (try clear hk); (try clear hi)))
             go_ret
             exact ⟨by first | rfl | (simp [errW_none, errW_some] <;> rfl) | (simp [*, errW_none, errW_some] <;> rfl), by repeat (first | (with_reducible first | exact HB.out | apply below_alloc | apply pw_below_drewN | apply below_drew1 | refine below_set ?_ GE119.out | refine below_set ?_ GE125.out) | exact HB.out)⟩
           ·rw [if_neg c14] at H
            exact absurd H (by simp)
          ·rw [if_neg c13] at H
           exact absurd H (by simp)
         ·rw [if_neg c12] at H
          have c12b0 : decide (x20_2 < (y120.length : Int)) = false := decide_eq_false c12
          clear c12
          have H' := Aside0.mk H
          clear H
          go_wp2
          go_roundg k2
          case measure => have := HK1.out; have := HK2.out; omega
          case rel => exact ⟨(wrap64 (x11_1 + 1)), (zq6), H', ⟨by have := HK1.out; have := HK2.out; omega⟩, ⟨by repeat (first | (with_reducible first | exact HB.out | apply below_alloc | apply pw_below_drewN | apply below_drew1 | refine below_set ?_ GE119.out) | exact HB.out)⟩⟩
      ·rw [if_neg c7] at H
       exact absurd H (by simp)
     ·rw [if_neg c5] at H
      exact absurd H (by simp)
    ·rw [if_neg c4] at H
     exact absurd H (by simp)
   ·rw [if_neg c3] at H
    have c3b0 : decide (x11_1 < (l0.length : Int)) = false := decide_eq_false c3
    clear c3
    obtain rfl := Option.some.inj H
    go_wp2
    go_ret
    exact ⟨by first | rfl | (simp [errW_none, errW_some] <;> rfl) | (simp [*, errW_none, errW_some] <;> rfl), by repeat (first | (with_reducible first | exact HB.out | apply below_alloc | apply pw_below_drewN | apply below_drew1) | exact HB.out)⟩
def plan_Valid.l0 : Nat → List (S29) → List (S29) → Int → Int → Option (Bool)
 | 0, _, _, _, _ => none
 | k + 1, x0, x6, x7, x8 => if x8 < x7 then (if 0 ≤ x8 then (if x8 < (x6.length : Int) then ((plan_isCode.f k ((rd_T29 x6 x8).f0) ((rd_T29 x6 x8).f1) ((rd_T29 x6 x8).f2)).bind fun t129 => (if t129 = true then (plan_Valid.l0 k x0 x6 x7 (wrap64 (x8 + 1))) else (some false))) else (none)) else (none)) else (if (x0.length : Int) ≤ 20 then ((api_Code.f k x0 ()).bind fun t130 => (some t130)) else (some false))
def plan_Valid.f (k : Nat) (l0 : List (S29)) : Option (Bool) := plan_Valid.l0 k l0 l0 (l0.length : Int) 0
theorem plan_Valid.mono_l : ∀ k, (∀ y0 y1 y2 y3, LeO (plan_Valid.l0 k y0 y1 y2 y3) (plan_Valid.l0 (k + 1) y0 y1 y2 y3))
 | 0 => fun _ _ _ _ r h => by simp [plan_Valid.l0] at h
 | k + 1 => by
  have ih0 := plan_Valid.mono_l k
  ·intro y0 y1 y2 y3
   unfold plan_Valid.l0
   repeat' first
   | (with_reducible exact ih0 _ _ _ _)
   | (with_reducible exact api_Code.mono _ _ _)
   | (with_reducible exact plan_isCode.mono _ _ _ _)
   | (with_reducible exact LeO.refl _)
   | (with_reducible exact LeO.none _)
   | (with_reducible refine LeO.ite ?_ ?_)
   | (with_reducible refine LeO.bind ?_ (fun _ => ?_))
   | exact ih0 _ _ _ _
   | exact api_Code.mono _ _ _
   | exact plan_isCode.mono _ _ _ _
   | exact LeO.none _
   | refine LeO.ite ?_ ?_
   | refine LeO.bind ?_ (fun _ => ?_)
theorem plan_Valid.mono : ∀ a0 k, LeO (plan_Valid.f k a0) (plan_Valid.f (k + 1) a0) := by
 intro a0 k
 have ih0 := plan_Valid.mono_l k
 unfold plan_Valid.f
 repeat' first
  | (with_reducible exact ih0 _ _ _ _)
  | (with_reducible exact api_Code.mono _ _ _)
  | (with_reducible exact plan_isCode.mono _ _ _ _)
  | (with_reducible exact LeO.refl _)
  | (with_reducible exact LeO.none _)
  | (with_reducible refine LeO.ite ?_ ?_)
  | (with_reducible refine LeO.bind ?_ (fun _ => ?_))
  | exact ih0 _ _ _ _
  | exact api_Code.mono _ _ _
  | exact plan_isCode.mono _ _ _ _
  | exact LeO.none _
  | refine LeO.ite ?_ ?_
  | refine LeO.bind ?_ (fun _ => ?_)
set_option maxHeartbeats 8000000 in
set_option maxRecDepth 100000 in
theorem plan_Valid.calls (k : Nat) (A0 : Option Addr) (c0 : Nat) (l0 : List (S29)) (r : Bool) (w : World) (hr0 : Kd.C k29 w A0 l0.length l0) (hc0 : l0.length ≤ c0) (h : plan_Valid.f k l0 = some r) :
 Calls Tryz.prog 25 #[.slice A0 l0.length c0] w fun e w' => e = .returned (.bool r) ∧ Below w.heap.size w w' := by
 have hu29 := Tryz.underlying29
 have HR0 := Aside0.mk hr0
 have HC0 := Aside0.mk hc0
 clear hr0 hc0
 have HB := Aside0.mk (Below.refl w.heap.size w)
 have H : (plan_Valid.l0 k l0 l0 (l0.length : Int) 0) = some r := h
 clear h
 have H' := Aside0.mk H
 clear H
 go_enter Tryz.func25, Tryz.ntmps25
 go_wp2
 go_loopg [8] k (fun kq v8 w' => ∃ (x8_1 : Int), v8 = .int .i64 x8_1 ∧ Aside0 (plan_Valid.l0 kq l0 l0 (l0.length : Int) x8_1 = some r) ∧ Aside0 (kq ≤ k) ∧ Aside0 (Below w.heap.size w w'))
 case atStart => exact ⟨(0), (zq6), H', ⟨Nat.le_refl _⟩, ⟨by repeat (first | (with_reducible first | exact HB.out | apply below_alloc | apply pw_below_drewN | apply below_drew1) | exact HB.out)⟩⟩
 case round =>
  clear H'
  obtain ⟨x8_1, rfl, HA, HK1, HB⟩ := hrel
  cases gk with
  | zero => exact absurd HA.out (by simp [plan_Valid.l0])
  | succ k1 =>
   have H := HA.out
   clear HA
   simp only [plan_Valid.l0] at H
   by_cases c2 : x8_1 < (l0.length : Int)
   ·rw [if_pos c2] at H
    have c2b0 : decide (x8_1 < (l0.length : Int)) = true := decide_eq_true c2
    clear c2
    by_cases c3 : 0 ≤ x8_1
    ·rw [if_pos c3] at H
     have c3b0 : decide (0 ≤ x8_1) = true := decide_eq_true c3
     clear c3
     by_cases c4 : x8_1 < (l0.length : Int)
     ·rw [if_pos c4] at H
      have c4b0 : decide (x8_1 < (l0.length : Int)) = true := decide_eq_true c4
      clear c4
      replace H := Option.bind_eq_some_iff.mp H
      obtain ⟨t129, A50, H⟩ := H
      try dsimp only at H
      have A5 := Aside0.mk A50
      clear A50
      by_cases c6 : t129 = true
      ·subst c6
       rw [if_pos rfl] at H
       have H' := Aside0.mk H
       clear H
       have p127 : 0 ≤ (x8_1 : Int) := of_decide_eq_true (zq14)
       have q127 : x8_1 < (l0.length : Int) := of_decide_eq_true (zq14)
       obtain ⟨ad127, e127, hx127_0, hx127_1, hx127_2⟩ := at_T29 HR0.out x8_1 p127 q127
       cases e127
       replace hx127_0 := (HB.out.cell (World.block_lt_of_cell? w _ hx127_0)).trans hx127_0
       replace hx127_1 := (HB.out.cell (World.block_lt_of_cell? w _ hx127_1)).trans hx127_1
       replace hx127_2 := (HB.out.cell (World.block_lt_of_cell? w _ hx127_2)).trans hx127_2
       replace p127 := eq_true p127
       replace q127 := eq_true q127
       go_wp2_with (first | ((with_reducible refine gate_dst (N := 4) rfl ?_); refine box_event ?hg (N := 4) ?hd (cs := #[.string (⟨#[]⟩ : ByteArray), .string (⟨#[]⟩ : ByteArray), .int .i64 0]) (t := 29) ?hr ?_; (case hd => rfl); (case hg => rfl); (case hr => exact zq0); intro gb128 hg w7 hbox hb; have n0_ := Aside0.mk (below_step (zq1) hb); have n1_ := Aside0.mk (hbox); have n2_ := Aside0.mk ((zq2 : w.heap.size ≤ gb128)); have n3_ := Aside0.mk ((zq2 : w.heap.size ≤ gb128)); clear HB; have HB := n0_; have BK128 := n1_; have GW128 := n2_; have GE128 := n3_; clear n0_ n1_ n2_ n3_; clear hb hbox hg; have hcz8_0 : w7.cell? ⟨gb128, 0, none⟩ = some (.string (⟨#[]⟩ : ByteArray)) := (blk_cell BK128.out 0).trans rfl; have hcz8_1 : w7.cell? ⟨gb128, 1, none⟩ = some (.string (⟨#[]⟩ : ByteArray)) := (blk_cell BK128.out 1).trans rfl; have hcz8_2 : w7.cell? ⟨gb128, 2, none⟩ = some (.int .i64 0) := (blk_cell BK128.out 2).trans rfl; have hfz8_0 := blk_frozen BK128.out 0; have hfz8_1 := blk_frozen BK128.out 1; have hfz8_2 := blk_frozen BK128.out 2) | ((with_reducible refine gate_callee (f := 54) rfl ?_); refine goesL_ (some 13) rfl rfl Tryz.func54 (by kernel_rfl) rfl #[.agg #[.string ((rd_T29 l0 x8_1).f0), .string ((rd_T29 l0 x8_1).f1), .int .i64 ((rd_T29 l0 x8_1).f2)]] rfl (zq3) ?_; (with_reducible refine (plan_isCode.calls k1 ((rd_T29 l0 x8_1).f0) ((rd_T29 l0 x8_1).f1) ((rd_T29 l0 x8_1).f2) true _ A5.out).mono ?_); rintro e w9 ⟨rfl, hb⟩; refine ⟨_, rfl, ?_⟩; have n0_ := Aside0.mk (blk_below (g := gb128) (o := .cells #[.string ((rd_T29 l0 x8_1).f0), .string ((rd_T29 l0 x8_1).f1), .int .i64 ((rd_T29 l0 x8_1).f2)] 29 (0, 0)) (zq23) hb); have n1_ := Aside0.mk (below_step (zq24) hb); clear BK128; clear HB; have BK128 := n0_; have HB := n1_; clear n0_ n1_; (try clear hb); (try clear hb2); (try clear hk); (try clear hi)))
       go_roundg k1
       case measure => have := HK1.out; omega
       case rel => exact ⟨(wrap64 (x8_1 + 1)), (zq6), H', ⟨by have := HK1.out; omega⟩, ⟨by repeat (first | (with_reducible first | exact HB.out | apply below_alloc | apply pw_below_drewN | apply below_drew1 | refine below_set ?_ GE128.out) | exact HB.out)⟩⟩
      ·replace c6 := Bool.eq_false_iff.mpr c6
       subst c6
       rw [if_neg (show ¬ (false = true) by decide)] at H
       obtain rfl := Option.some.inj H
       have p127 : 0 ≤ (x8_1 : Int) := of_decide_eq_true (zq14)
       have q127 : x8_1 < (l0.length : Int) := of_decide_eq_true (zq14)
       obtain ⟨ad127, e127, hx127_0, hx127_1, hx127_2⟩ := at_T29 HR0.out x8_1 p127 q127
       cases e127
       replace hx127_0 := (HB.out.cell (World.block_lt_of_cell? w _ hx127_0)).trans hx127_0
       replace hx127_1 := (HB.out.cell (World.block_lt_of_cell? w _ hx127_1)).trans hx127_1
       replace hx127_2 := (HB.out.cell (World.block_lt_of_cell? w _ hx127_2)).trans hx127_2
       replace p127 := eq_true p127
       replace q127 := eq_true q127
       go_wp2_with (first | ((with_reducible refine gate_dst (N := 4) rfl ?_); refine box_event ?hg (N := 4) ?hd (cs := #[.string (⟨#[]⟩ : ByteArray), .string (⟨#[]⟩ : ByteArray), .int .i64 0]) (t := 29) ?hr ?_; (case hd => rfl); (case hg => rfl); (case hr => exact zq0); intro gb128 hg w10 hbox hb; have n0_ := Aside0.mk (below_step (zq1) hb); have n1_ := Aside0.mk (hbox); have n2_ := Aside0.mk ((zq2 : w.heap.size ≤ gb128)); have n3_ := Aside0.mk ((zq2 : w.heap.size ≤ gb128)); clear HB; have HB := n0_; have BK128 := n1_; have GW128 := n2_; have GE128 := n3_; clear n0_ n1_ n2_ n3_; clear hb hbox hg; have hcz11_0 : w10.cell? ⟨gb128, 0, none⟩ = some (.string (⟨#[]⟩ : ByteArray)) := (blk_cell BK128.out 0).trans rfl; have hcz11_1 : w10.cell? ⟨gb128, 1, none⟩ = some (.string (⟨#[]⟩ : ByteArray)) := (blk_cell BK128.out 1).trans rfl; have hcz11_2 : w10.cell? ⟨gb128, 2, none⟩ = some (.int .i64 0) := (blk_cell BK128.out 2).trans rfl; have hfz11_0 := blk_frozen BK128.out 0; have hfz11_1 := blk_frozen BK128.out 1; have hfz11_2 := blk_frozen BK128.out 2) | ((with_reducible refine gate_callee (f := 54) rfl ?_); refine goesL_ (some 13) rfl rfl Tryz.func54 (by kernel_rfl) rfl #[.agg #[.string ((rd_T29 l0 x8_1).f0), .string ((rd_T29 l0 x8_1).f1), .int .i64 ((rd_T29 l0 x8_1).f2)]] rfl (zq3) ?_; (with_reducible refine (plan_isCode.calls k1 ((rd_T29 l0 x8_1).f0) ((rd_T29 l0 x8_1).f1) ((rd_T29 l0 x8_1).f2) false _ A5.out).mono ?_); rintro e w12 ⟨rfl, hb⟩; refine ⟨_, rfl, ?_⟩; have n0_ := Aside0.mk (blk_below (g := gb128) (o := .cells #[.string ((rd_T29 l0 x8_1).f0), .string ((rd_T29 l0 x8_1).f1), .int .i64 ((rd_T29 l0 x8_1).f2)] 29 (0, 0)) (zq23) hb); have n1_ := Aside0.mk (below_step (zq24) hb); clear BK128; clear HB; have BK128 := n0_; have HB := n1_; clear n0_ n1_; (try clear hb); (try clear hb2); (try clear hk); (try clear hi)))
       go_ret
       exact ⟨by first | rfl | (simp [errW_none, errW_some] <;> rfl) | (simp [*, errW_none, errW_some] <;> rfl), by repeat (first | (with_reducible first | exact HB.out | apply below_alloc | apply pw_below_drewN | apply below_drew1 | refine below_set ?_ GE128.out) | exact HB.out)⟩
     ·rw [if_neg c4] at H
      exact absurd H (by simp)
    ·rw [if_neg c3] at H
     exact absurd H (by simp)
   ·rw [if_neg c2] at H
    have c2b0 : decide (x8_1 < (l0.length : Int)) = false := decide_eq_false c2
    clear c2
    by_cases c13 : (l0.length : Int) ≤ 20
    ·rw [if_pos c13] at H
     have c13b0 : decide ((l0.length : Int) ≤ 20) = true := decide_eq_true c13
     have c13b1 : decide (l0.length ≤ 20) = true := decide_eq_true (by omega)
     clear c13
     replace H := Option.bind_eq_some_iff.mp H
     obtain ⟨t130, A140, H⟩ := H
     try dsimp only at H
     have A14 := Aside0.mk A140
     clear A140
     obtain rfl := Option.some.inj H
     go_wp2_with (first | (go_at_call 57; (with_reducible refine (api_Code.calls k1 _ _ l0 () t130 _ ?side1 ?side2 A14.out).mono ?_); (case side1 => exact zq25); (case side2 => exact zq26); rintro e w15 ⟨rfl, hb⟩; have n0_ := Aside0.mk (below_step (zq1) hb); clear HB; have HB := n0_; clear n0_; (try clear hb); (try clear hb2); (try clear hk); (try clear hi)))
     go_ret
     exact ⟨by first | rfl | (simp [errW_none, errW_some] <;> rfl) | (simp [*, errW_none, errW_some] <;> rfl), by repeat (first | (with_reducible first | exact HB.out | apply below_alloc | apply pw_below_drewN | apply below_drew1) | exact HB.out)⟩
    ·rw [if_neg c13] at H
     have c13b0 : decide ((l0.length : Int) ≤ 20) = false := decide_eq_false c13
     have c13b1 : decide (l0.length ≤ 20) = false := decide_eq_false (by omega)
     clear c13
     obtain rfl := Option.some.inj H
     go_wp2
     go_ret
     exact ⟨by first | rfl | (simp [errW_none, errW_some] <;> rfl) | (simp [*, errW_none, errW_some] <;> rfl), by repeat (first | (with_reducible first | exact HB.out | apply below_alloc | apply pw_below_drewN | apply below_drew1) | exact HB.out)⟩
def plan_isPhase.f (a0 : Int) : Option (Bool) := (plan_isWithin.f a0 1 3).bind fun t131 => (some t131)
set_option maxHeartbeats 8000000 in
set_option maxRecDepth 100000 in
theorem plan_isPhase.calls (a0 : Int) (r : Bool) (w : World) (h : plan_isPhase.f a0 = some r) :
 Calls Tryz.prog 35 #[.int .i64 a0] w fun e w' => e = .returned (.bool r) ∧ Drawn0 w w' := by
 have H : ((plan_isWithin.f a0 1 3).bind fun t131 => (some t131)) = some r := h
 clear h
 replace H := Option.bind_eq_some_iff.mp H
 obtain ⟨t131, A20, H⟩ := H
 try dsimp only at H
 have A2 := Aside0.mk A20
 clear A20
 obtain rfl := Option.some.inj H
 go_enter Tryz.func35, Tryz.ntmps35
 go_wp2_with (first | ((with_reducible refine gate_callee (f := 36) rfl ?_); refine goesL_ (some 4) rfl rfl Tryz.func36 (by kernel_rfl) rfl #[.int .i64 a0, .int .i64 1, .int .i64 3] rfl (zq3) ?_; (with_reducible refine (plan_isWithin.calls a0 1 3 t131 _ A2.out).mono ?_); rintro e w' ⟨rfl, ⟨nd, rfl⟩⟩; refine ⟨_, rfl, ?_⟩))
 go_ret
 exact ⟨by first | rfl | (simp; done) | (simp [*]; done), by repeat (first | exact Drawn0.refl _ | apply Drawn0.step)⟩
end Go.Proofs.YtlmfoblgheepoaaGreatDoor.Pl
end
section
open Go.Proofs.YtlmfoblgheepoaaGreatDoor.Z
namespace Go.Proofs.YtlmfoblgheepoaaGreatDoor.Pl
open Go.RowKit Go.Proofs.YtlmfoblgheepoaaGreatDoorW.PrintWords Go.Proofs.YtlmfoblgheepoaaGreatDoorW.PrintLast Go.Proofs.YtlmfoblgheepoaaGreatDoorW.PrintMore
attribute [local go_sem] max2_int min2_int max_two min_two max_three min_three max_four min_four
set_option linter.unusedVariables false
set_option linter.unusedSimpArgs false
def strconv_Itoa.f (n : Int) : Option ByteArray :=
 if -9223372036854775808 ≤ n ∧ n ≤ 9223372036854775807 then some ⟨(Lib.itoa n).toArray⟩ else none
theorem strconv_Itoa.calls (n : Int) (r : ByteArray) (w : World) (hG : Glb w) (h : strconv_Itoa.f n = some r) :
 Calls Tryz.prog 60 #[.int .i64 n] w fun e w' => e = .returned (.string r) ∧ Below w.heap.size w w' := by
 unfold strconv_Itoa.f at h
 split at h
 ·rename_i hc
  obtain rfl := Option.some.inj h
  exact (Tryz.strconv_Itoa n hc.1 hc.2 w hG).mono fun e w' ⟨he, k, os, hw⟩ => ⟨he, by rw [hw]; exact below_growN w k os⟩
 ·cases h
end Go.Proofs.YtlmfoblgheepoaaGreatDoor.Pl
end
section
open Go.Proofs.YtlmfoblgheepoaaGreatDoor.Z
namespace Go.Proofs.YtlmfoblgheepoaaGreatDoor.Pl
open Go.RowKit Go.Proofs.YtlmfoblgheepoaaGreatDoorW.PrintWords Go.Proofs.YtlmfoblgheepoaaGreatDoorW.PrintLast Go.Proofs.YtlmfoblgheepoaaGreatDoorW.PrintMore
attribute [local go_sem] max2_int min2_int max_two min_two max_three min_three max_four min_four
set_option linter.unusedVariables false
set_option linter.unusedSimpArgs false
def strings_Repeat.f (s : ByteArray) (c : Int) : Option ByteArray :=
 if 0 ≤ c ∧ c ≤ 9223372036854775807 ∧ s.size * c.toNat ≤ 140737488355328 then some ⟨(Lib.repeatL s.data.toList c.toNat).toArray⟩ else none
theorem strings_Repeat.calls (s : ByteArray) (c : Int) (r : ByteArray) (w : World) (h : strings_Repeat.f s c = some r) :
 Calls Tryz.prog 61 #[.string s, .int .i64 c] w fun e w' => e = .returned (.string r) ∧ Below w.heap.size w w' := by
 unfold strings_Repeat.f at h
 split at h
 ·rename_i hc
  obtain ⟨h1, h2, h3⟩ := hc
  obtain rfl := Option.some.inj h
  obtain ⟨n, rfl⟩ := Int.eq_ofNat_of_zero_le h1
  exact Tryz.strings_Repeat s n w (by omega) h3
 ·cases h
end Go.Proofs.YtlmfoblgheepoaaGreatDoor.Pl
end
section
open Go.Proofs.YtlmfoblgheepoaaGreatDoor.Z
namespace Go.Proofs.YtlmfoblgheepoaaGreatDoor.Pl
open Go.RowKit Go.Proofs.YtlmfoblgheepoaaGreatDoorW.PrintWords Go.Proofs.YtlmfoblgheepoaaGreatDoorW.PrintLast Go.Proofs.YtlmfoblgheepoaaGreatDoorW.PrintMore
attribute [local go_sem] max2_int min2_int max_two min_two max_three min_three max_four min_four
set_option linter.unusedVariables false
set_option linter.unusedSimpArgs false
def plan_eight.f (a0 : Int) : Option (ByteArray) := (strconv_Itoa.f a0).bind fun t132 => ((strings_Repeat.f (⟨#[48]⟩ : ByteArray) (wrap64 (8 - (t132.size : Int)))).bind fun t133 => (if t133.size + t132.size ≤ 9223372036854775807 then (some (t133 ++ t132)) else (none)))
set_option maxHeartbeats 8000000 in
set_option maxRecDepth 100000 in
theorem plan_eight.calls (a0 : Int) (r : ByteArray) (w : World) (hG : Glb w) (h : plan_eight.f a0 = some r) :
 Calls Tryz.prog 37 #[.int .i64 a0] w fun e w' => e = .returned (.string r) ∧ Below w.heap.size w w' := by
 have HGLB := Aside0.mk hG
 clear hG
 have HB := Aside0.mk (Below.refl w.heap.size w)
 have H : ((strconv_Itoa.f a0).bind fun t132 => ((strings_Repeat.f (⟨#[48]⟩ : ByteArray) (wrap64 (8 - (t132.size : Int)))).bind fun t133 => (if t133.size + t132.size ≤ 9223372036854775807 then (some (t133 ++ t132)) else (none)))) = some r := h
 clear h
 replace H := Option.bind_eq_some_iff.mp H
 obtain ⟨t132, A20, H⟩ := H
 try dsimp only at H
 have A2 := Aside0.mk A20
 clear A20
 replace H := Option.bind_eq_some_iff.mp H
 obtain ⟨t133, A30, H⟩ := H
 try dsimp only at H
 have A3 := Aside0.mk A30
 clear A30
 by_cases c4 : t133.size + t132.size ≤ 9223372036854775807
 ·rw [if_pos c4] at H
  have c4b0 := eq_true c4
  have c4b1 : decide (t133.size + t132.size ≤ 9223372036854775807) = true := decide_eq_true c4
  try have c4b2 : (9223372036854775807 < t133.size + t132.size) = False := eq_false (Nat.not_lt.2 c4)
  obtain rfl := Option.some.inj H
  go_enter Tryz.func37, Tryz.ntmps37
  go_wp2_with (first | ((with_reducible refine gate_callee (f := 60) rfl ?_); refine goesL_ (some 5) rfl rfl Tryz.func60 (by kernel_rfl) rfl #[.int .i64 a0] rfl (zq3) ?_; (with_reducible refine (strconv_Itoa.calls a0 t132 _ ?side1 A2.out).mono ?_); (case side1 => exact zq27); rintro e w5 ⟨rfl, hb⟩; refine ⟨_, rfl, ?_⟩; have n0_ := Aside0.mk (below_step (zq1) hb); clear HB; have HB := n0_; clear n0_; (try clear hb); (try clear hb2); (try clear hk); (try clear hi)) | ((with_reducible refine gate_callee (f := 61) rfl ?_); refine goesL_ (some 9) rfl rfl Tryz.func61 (by kernel_rfl) rfl #[.string (⟨#[48]⟩ : ByteArray), .int .i64 (wrap64 (8 - (t132.size : Int)))] rfl (zq3) ?_; (with_reducible refine (strings_Repeat.calls (⟨#[48]⟩ : ByteArray) (wrap64 (8 - (t132.size : Int))) t133 _ A3.out).mono ?_); rintro e w6 ⟨rfl, hb⟩; refine ⟨_, rfl, ?_⟩; have n0_ := Aside0.mk (below_step (zq1) hb); clear HB; have HB := n0_; clear n0_; (try clear hb); (try clear hb2); (try clear hk); (try clear hi)))
  go_ret
  exact ⟨by first | rfl | (simp [errW_none, errW_some] <;> rfl) | (simp [*, errW_none, errW_some] <;> rfl), by repeat (first | (with_reducible first | exact HB.out | apply below_alloc | apply pw_below_drewN | apply below_drew1) | exact HB.out)⟩
 ·rw [if_neg c4] at H
  exact absurd H (by simp)
mutual
def plan_Write.j0 : Nat → List (S29) → Int → Int → Bool → Option (ByteArray × Int)
 | 0, _, _, _, _ => none
 | k + 1, x0, x1, x2, x24 => if x24 = true then (some ((⟨#[]⟩ : ByteArray), 120)) else ((plan_eight.f x1).bind fun t137 => (plan_Write.l0 k x2 t137 x0 (x0.length : Int) 0))
def plan_Write.l0 : Nat → Int → ByteArray → List (S29) → Int → Int → Option (ByteArray × Int)
 | 0, _, _, _, _, _ => none
 | k + 1, x2, x8, x27, x28, x29 => if x29 < x28 then (if 0 ≤ x29 then (if x29 < (x27.length : Int) then ((strings_HasPrefix.f x8 ((rd_T29 x27 x29).f1)).bind fun t140 => (if t140 = true then (if x2 = 1 then ((plan_room.f ((rd_T29 x27 x29).f0) ((rd_T29 x27 x29).f1) ((rd_T29 x27 x29).f2)).bind fun t141 => (if 0 ≤ (((rd_T29 x27 x29).f1).size : Int) then (if (((rd_T29 x27 x29).f1).size : Int) ≤ (wrap64 (8 - t141)) then (if (wrap64 (8 - t141)) ≤ (x8.size : Int) then ((strings_Trim.f (x8.extract ((((rd_T29 x27 x29).f1).size : Int) : Int).toNat ((wrap64 (8 - t141)) : Int).toNat) (⟨#[48]⟩ : ByteArray)).bind fun t142 => (if t142.toList = ([] : List UInt8) then (if 0 ≤ (wrap64 (8 - t141)) then (if ((rd_T29 x27 x29).f0).size + (x8.extract ((wrap64 (8 - t141)) : Int).toNat x8.size).size ≤ 9223372036854775807 then (some (((rd_T29 x27 x29).f0) ++ (x8.extract ((wrap64 (8 - t141)) : Int).toNat x8.size), 0)) else (none)) else (none)) else (some ((⟨#[]⟩ : ByteArray), 120)))) else (none)) else (none)) else (none))) else (some (x8, 0))) else (plan_Write.l0 k x2 x8 x27 x28 (wrap64 (x29 + 1))))) else (none)) else (none)) else (some ((⟨#[]⟩ : ByteArray), 120))
end
def plan_Write.f (k : Nat) (l0 : List (S29)) (a1 : Int) (a2 : Int) : Option (ByteArray × Int) := (plan_Valid.f k l0).bind fun t134 => (if t134 = true then ((plan_isPhase.f a2).bind fun t135 => (if t135 = true then ((plan_isWithin.f a1 0 99999999).bind fun t136 => (plan_Write.j0 k l0 a1 a2 (!t136))) else (plan_Write.j0 k l0 a1 a2 true))) else (plan_Write.j0 k l0 a1 a2 true))
theorem plan_Write.mono_l : ∀ k, (∀ y0 y1 y2 y3, LeO (plan_Write.j0 k y0 y1 y2 y3) (plan_Write.j0 (k + 1) y0 y1 y2 y3)) ∧ (∀ y0 y1 y2 y3 y4, LeO (plan_Write.l0 k y0 y1 y2 y3 y4) (plan_Write.l0 (k + 1) y0 y1 y2 y3 y4))
 | 0 => ⟨fun _ _ _ _ r h => by simp [plan_Write.j0] at h, fun _ _ _ _ _ r h => by simp [plan_Write.l0] at h⟩
 | k + 1 => by
  obtain ⟨ih0, ih1⟩ := plan_Write.mono_l k
  refine ⟨?_, ?_⟩
  ·intro y0 y1 y2 y3
   unfold plan_Write.j0
   repeat' first
   | (with_reducible exact ih0 _ _ _ _)
   | (with_reducible exact ih1 _ _ _ _ _)
   | (with_reducible exact plan_Valid.mono _ _)
   | (with_reducible exact LeO.refl _)
   | (with_reducible exact LeO.none _)
   | (with_reducible refine LeO.ite ?_ ?_)
   | (with_reducible refine LeO.bind ?_ (fun _ => ?_))
   | exact ih0 _ _ _ _
   | exact ih1 _ _ _ _ _
   | exact plan_Valid.mono _ _
   | exact LeO.none _
   | refine LeO.ite ?_ ?_
   | refine LeO.bind ?_ (fun _ => ?_)
  ·intro y0 y1 y2 y3 y4
   unfold plan_Write.l0
   repeat' first
   | (with_reducible exact ih0 _ _ _ _)
   | (with_reducible exact ih1 _ _ _ _ _)
   | (with_reducible exact plan_Valid.mono _ _)
   | (with_reducible exact LeO.refl _)
   | (with_reducible exact LeO.none _)
   | (with_reducible refine LeO.ite ?_ ?_)
   | (with_reducible refine LeO.bind ?_ (fun _ => ?_))
   | exact ih0 _ _ _ _
   | exact ih1 _ _ _ _ _
   | exact plan_Valid.mono _ _
   | exact LeO.none _
   | refine LeO.ite ?_ ?_
   | refine LeO.bind ?_ (fun _ => ?_)
theorem plan_Write.mono : ∀ a0 a1 a2 k, LeO (plan_Write.f k a0 a1 a2) (plan_Write.f (k + 1) a0 a1 a2) := by
 intro a0 a1 a2 k
 obtain ⟨ih0, ih1⟩ := plan_Write.mono_l k
 unfold plan_Write.f
 repeat' first
  | (with_reducible exact ih0 _ _ _ _)
  | (with_reducible exact ih1 _ _ _ _ _)
  | (with_reducible exact plan_Valid.mono _ _)
  | (with_reducible exact LeO.refl _)
  | (with_reducible exact LeO.none _)
  | (with_reducible refine LeO.ite ?_ ?_)
  | (with_reducible refine LeO.bind ?_ (fun _ => ?_))
  | exact ih0 _ _ _ _
  | exact ih1 _ _ _ _ _
  | exact plan_Valid.mono _ _
  | exact LeO.none _
  | refine LeO.ite ?_ ?_
  | refine LeO.bind ?_ (fun _ => ?_)
set_option maxHeartbeats 8000000 in
set_option maxRecDepth 100000 in
theorem plan_Write.calls (k : Nat) (A0 : Option Addr) (c0 : Nat) (l0 : List (S29)) (a1 : Int) (a2 : Int) (r1 : ByteArray) (r2 : Int) (w : World) (hr0 : Kd.C k29 w A0 l0.length l0) (hc0 : l0.length ≤ c0) (hG : Glb w) (h : plan_Write.f k l0 a1 a2 = some (r1, r2)) :
 Calls Tryz.prog 17 #[.slice A0 l0.length c0, .int .i64 a1, .int .i64 a2] w fun e w' => e = .returned (.tuple #[.string r1, .int .i64 r2]) ∧ Below w.heap.size w w' := by
 have HGLB := Aside0.mk hG
 clear hG
 have hu29 := Tryz.underlying29
 have HR0 := Aside0.mk hr0
 have HC0 := Aside0.mk hc0
 clear hr0 hc0
 have HB := Aside0.mk (Below.refl w.heap.size w)
 have H : ((plan_Valid.f k l0).bind fun t134 => (if t134 = true then ((plan_isPhase.f a2).bind fun t135 => (if t135 = true then ((plan_isWithin.f a1 0 99999999).bind fun t136 => (plan_Write.j0 k l0 a1 a2 (!t136))) else (plan_Write.j0 k l0 a1 a2 true))) else (plan_Write.j0 k l0 a1 a2 true))) = some (r1, r2) := h
 clear h
 have HC4 := Aside0.mk H
 clear H
 go_enter Tryz.func17, Tryz.ntmps17
 go_upto_region 1 with (fail)
 repeat (go_quiet (fail); go_upto_region 1 with (fail))
 go_cut [24] (fun v24 wc => ∃ (kq : Nat) (x24_3 : Bool), v24 = .bool x24_3 ∧ Aside0 (plan_Write.j0 kq l0 a1 a2 x24_3 = some (r1, r2)) ∧ Aside0 (kq ≤ k) ∧ Aside0 (Below w.heap.size w wc))
 case first =>
  have H := HC4.out
  clear HC4
  replace H := Option.bind_eq_some_iff.mp H
  obtain ⟨t134, A50, H⟩ := H
  replace H : (if t134 = true then ((plan_isPhase.f a2).bind fun t135 => (if t135 = true then ((plan_isWithin.f a1 0 99999999).bind fun t136 => (plan_Write.j0 k l0 a1 a2 (!t136))) else (plan_Write.j0 k l0 a1 a2 true))) else (plan_Write.j0 k l0 a1 a2 true)) = some (r1, r2) := H
  have A5 := Aside0.mk A50
  clear A50
  by_cases c6 : t134 = true
  ·subst c6
   have H1 : ((plan_isPhase.f a2).bind fun t135 => (if t135 = true then ((plan_isWithin.f a1 0 99999999).bind fun t136 => (plan_Write.j0 k l0 a1 a2 (!t136))) else (plan_Write.j0 k l0 a1 a2 true))) = some (r1, r2) := by rw [if_pos rfl] at H; exact H
   clear H
   have H := H1
   clear H1
   replace H := Option.bind_eq_some_iff.mp H
   obtain ⟨t135, A70, H⟩ := H
   replace H : (if t135 = true then ((plan_isWithin.f a1 0 99999999).bind fun t136 => (plan_Write.j0 k l0 a1 a2 (!t136))) else (plan_Write.j0 k l0 a1 a2 true)) = some (r1, r2) := H
   have A7 := Aside0.mk A70
   clear A70
   by_cases c8 : t135 = true
   ·subst c8
    have H1 : ((plan_isWithin.f a1 0 99999999).bind fun t136 => (plan_Write.j0 k l0 a1 a2 (!t136))) = some (r1, r2) := by rw [if_pos rfl] at H; exact H
    clear H
    have H := H1
    clear H1
    replace H := Option.bind_eq_some_iff.mp H
    obtain ⟨t136, A90, H⟩ := H
    replace H : (plan_Write.j0 k l0 a1 a2 (!t136)) = some (r1, r2) := H
    have A9 := Aside0.mk A90
    clear A90
    have H' := Aside0.mk H
    clear H
    go_wp2_with (first | (go_at_call 25; (with_reducible refine (plan_Valid.calls k _ _ l0 true _ ?side1 ?side2 A5.out).mono ?_); (case side1 => exact zq25); (case side2 => exact zq26); rintro e w10 ⟨rfl, hb⟩; have n0_ := Aside0.mk (below_step (zq1) hb); clear HB; have HB := n0_; clear n0_; (try clear hb); (try clear hb2); (try clear hk); (try clear hi)) | (go_at_call 35; (with_reducible refine (plan_isPhase.calls a2 true _ A7.out).mono ?_); rintro e w' ⟨rfl, ⟨nd, rfl⟩⟩; (try first | exact ⟨rfl, _, World.drewN_drewN _ _ _⟩ | exact ⟨rfl, _, Eq.trans (World.drewN_drewN _ _ _) (congrArg (World.drewN _) (Nat.add_assoc _ _ _))⟩)) | (go_at_call 36; (with_reducible refine (plan_isWithin.calls a1 0 99999999 t136 _ A9.out).mono ?_); rintro e w' ⟨rfl, ⟨nd, rfl⟩⟩; (try first | exact ⟨rfl, _, World.drewN_drewN _ _ _⟩ | exact ⟨rfl, _, Eq.trans (World.drewN_drewN _ _ _) (congrArg (World.drewN _) (Nat.add_assoc _ _ _))⟩)))
    repeat (go_quiet (first | (go_at_call 25; (with_reducible refine (plan_Valid.calls k _ _ l0 true _ ?side1 ?side2 A5.out).mono ?_); (case side1 => exact zq25); (case side2 => exact zq26); rintro e w10 ⟨rfl, hb⟩; have n0_ := Aside0.mk (below_step (zq1) hb); clear HB; have HB := n0_; clear n0_; (try clear hb); (try clear hb2); (try clear hk); (try clear hi)) | (go_at_call 35; (with_reducible refine (plan_isPhase.calls a2 true _ A7.out).mono ?_); rintro e w' ⟨rfl, ⟨nd, rfl⟩⟩; (try first | exact ⟨rfl, _, World.drewN_drewN _ _ _⟩ | exact ⟨rfl, _, Eq.trans (World.drewN_drewN _ _ _) (congrArg (World.drewN _) (Nat.add_assoc _ _ _))⟩)) | (go_at_call 36; (with_reducible refine (plan_isWithin.calls a1 0 99999999 t136 _ A9.out).mono ?_); rintro e w' ⟨rfl, ⟨nd, rfl⟩⟩; (try first | exact ⟨rfl, _, World.drewN_drewN _ _ _⟩ | exact ⟨rfl, _, Eq.trans (World.drewN_drewN _ _ _) (congrArg (World.drewN _) (Nat.add_assoc _ _ _))⟩))); try go_wp2_with (first | (go_at_call 25; (with_reducible refine (plan_Valid.calls k _ _ l0 true _ ?side1 ?side2 A5.out).mono ?_); (case side1 => exact zq25); (case side2 => exact zq26); rintro e w10 ⟨rfl, hb⟩; have n0_ := Aside0.mk (below_step (zq1) hb); clear HB; have HB := n0_; clear n0_; (try clear hb); (try clear hb2); (try clear hk); (try clear hi)) | (go_at_call 35; (with_reducible refine (plan_isPhase.calls a2 true _ A7.out).mono ?_); rintro e w' ⟨rfl, ⟨nd, rfl⟩⟩; (try first | exact ⟨rfl, _, World.drewN_drewN _ _ _⟩ | exact ⟨rfl, _, Eq.trans (World.drewN_drewN _ _ _) (congrArg (World.drewN _) (Nat.add_assoc _ _ _))⟩)) | (go_at_call 36; (with_reducible refine (plan_isWithin.calls a1 0 99999999 t136 _ A9.out).mono ?_); rintro e w' ⟨rfl, ⟨nd, rfl⟩⟩; (try first | exact ⟨rfl, _, World.drewN_drewN _ _ _⟩ | exact ⟨rfl, _, Eq.trans (World.drewN_drewN _ _ _) (congrArg (World.drewN _) (Nat.add_assoc _ _ _))⟩))))
    go_meet
    case rel => exact ⟨_, (!t136), (zq6), H', ⟨by first | omega | exact Nat.le_refl _⟩, ⟨by repeat (first | (with_reducible first | exact HB.out | apply below_alloc | apply pw_below_drewN | apply below_drew1) | exact HB.out)⟩⟩
   ·replace c8 := Bool.eq_false_iff.mpr c8
    subst c8
    have H1 : (plan_Write.j0 k l0 a1 a2 true) = some (r1, r2) := by rw [if_neg (show ¬ (false = true) by decide)] at H; exact H
    clear H
    have H := H1
    clear H1
    have H' := Aside0.mk H
    clear H
    go_wp2_with (first | (go_at_call 25; (with_reducible refine (plan_Valid.calls k _ _ l0 true _ ?side1 ?side2 A5.out).mono ?_); (case side1 => exact zq25); (case side2 => exact zq26); rintro e w11 ⟨rfl, hb⟩; have n0_ := Aside0.mk (below_step (zq1) hb); clear HB; have HB := n0_; clear n0_; (try clear hb); (try clear hb2); (try clear hk); (try clear hi)) | (go_at_call 35; (with_reducible refine (plan_isPhase.calls a2 false _ A7.out).mono ?_); rintro e w' ⟨rfl, ⟨nd, rfl⟩⟩; (try first | exact ⟨rfl, _, World.drewN_drewN _ _ _⟩ | exact ⟨rfl, _, Eq.trans (World.drewN_drewN _ _ _) (congrArg (World.drewN _) (Nat.add_assoc _ _ _))⟩)))
    repeat (go_quiet (first | (go_at_call 25; (with_reducible refine (plan_Valid.calls k _ _ l0 true _ ?side1 ?side2 A5.out).mono ?_); (case side1 => exact zq25); (case side2 => exact zq26); rintro e w11 ⟨rfl, hb⟩; have n0_ := Aside0.mk (below_step (zq1) hb); clear HB; have HB := n0_; clear n0_; (try clear hb); (try clear hb2); (try clear hk); (try clear hi)) | (go_at_call 35; (with_reducible refine (plan_isPhase.calls a2 false _ A7.out).mono ?_); rintro e w' ⟨rfl, ⟨nd, rfl⟩⟩; (try first | exact ⟨rfl, _, World.drewN_drewN _ _ _⟩ | exact ⟨rfl, _, Eq.trans (World.drewN_drewN _ _ _) (congrArg (World.drewN _) (Nat.add_assoc _ _ _))⟩))); try go_wp2_with (first | (go_at_call 25; (with_reducible refine (plan_Valid.calls k _ _ l0 true _ ?side1 ?side2 A5.out).mono ?_); (case side1 => exact zq25); (case side2 => exact zq26); rintro e w11 ⟨rfl, hb⟩; have n0_ := Aside0.mk (below_step (zq1) hb); clear HB; have HB := n0_; clear n0_; (try clear hb); (try clear hb2); (try clear hk); (try clear hi)) | (go_at_call 35; (with_reducible refine (plan_isPhase.calls a2 false _ A7.out).mono ?_); rintro e w' ⟨rfl, ⟨nd, rfl⟩⟩; (try first | exact ⟨rfl, _, World.drewN_drewN _ _ _⟩ | exact ⟨rfl, _, Eq.trans (World.drewN_drewN _ _ _) (congrArg (World.drewN _) (Nat.add_assoc _ _ _))⟩))))
    go_meet
    case rel => exact ⟨_, (true), (zq6), H', ⟨by first | omega | exact Nat.le_refl _⟩, ⟨by repeat (first | (with_reducible first | exact HB.out | apply below_alloc | apply pw_below_drewN | apply below_drew1) | exact HB.out)⟩⟩
  ·replace c6 := Bool.eq_false_iff.mpr c6
   subst c6
   have H1 : (plan_Write.j0 k l0 a1 a2 true) = some (r1, r2) := by rw [if_neg (show ¬ (false = true) by decide)] at H; exact H
   clear H
   have H := H1
   clear H1
   have H' := Aside0.mk H
   clear H
   go_wp2_with (first | (go_at_call 25; (with_reducible refine (plan_Valid.calls k _ _ l0 false _ ?side1 ?side2 A5.out).mono ?_); (case side1 => exact zq25); (case side2 => exact zq26); rintro e w12 ⟨rfl, hb⟩; have n0_ := Aside0.mk (below_step (zq1) hb); clear HB; have HB := n0_; clear n0_; (try clear hb); (try clear hb2); (try clear hk); (try clear hi)))
   repeat (go_quiet (first | (go_at_call 25; (with_reducible refine (plan_Valid.calls k _ _ l0 false _ ?side1 ?side2 A5.out).mono ?_); (case side1 => exact zq25); (case side2 => exact zq26); rintro e w12 ⟨rfl, hb⟩; have n0_ := Aside0.mk (below_step (zq1) hb); clear HB; have HB := n0_; clear n0_; (try clear hb); (try clear hb2); (try clear hk); (try clear hi))); try go_wp2_with (first | (go_at_call 25; (with_reducible refine (plan_Valid.calls k _ _ l0 false _ ?side1 ?side2 A5.out).mono ?_); (case side1 => exact zq25); (case side2 => exact zq26); rintro e w12 ⟨rfl, hb⟩; have n0_ := Aside0.mk (below_step (zq1) hb); clear HB; have HB := n0_; clear n0_; (try clear hb); (try clear hb2); (try clear hk); (try clear hi))))
   go_meet
   case rel => exact ⟨_, (true), (zq6), H', ⟨by first | omega | exact Nat.le_refl _⟩, ⟨by repeat (first | (with_reducible first | exact HB.out | apply below_alloc | apply pw_below_drewN | apply below_drew1) | exact HB.out)⟩⟩
 case rest =>
  clear HC4
  try clear c1
  try clear p2
  try clear c6
  try clear c8
  obtain ⟨kq, x24_3, rfl, HA, HJ3, HB⟩ := hcut
  cases kq with
  | zero => exact absurd HA.out (by simp [plan_Write.j0])
  | succ kj3 =>
   have H := HA.out
   clear HA
   simp only [plan_Write.j0] at H
   by_cases c13 : x24_3 = true
   ·subst c13
    have H1 : (some ((⟨#[]⟩ : ByteArray), 120)) = some (r1, r2) := by rw [if_pos rfl] at H; exact H
    clear H
    have H := H1
    clear H1
    simp only [Option.some.injEq, Prod.mk.injEq] at H
    obtain ⟨rfl, rfl⟩ := H
    go_wp2
    repeat (go_quiet (fail); try go_wp2)
    go_ret2
    exact ⟨by first | rfl | (simp [errW_none, errW_some] <;> rfl) | (simp [*, errW_none, errW_some] <;> rfl), by repeat (first | (with_reducible first | exact HB.out | apply below_alloc | apply pw_below_drewN | apply below_drew1) | exact HB.out)⟩
   ·replace c13 := Bool.eq_false_iff.mpr c13
    subst c13
    have H1 : ((plan_eight.f a1).bind fun t137 => (plan_Write.l0 kj3 a2 t137 l0 (l0.length : Int) 0)) = some (r1, r2) := by rw [if_neg (show ¬ (false = true) by decide)] at H; exact H
    clear H
    have H := H1
    clear H1
    replace H := Option.bind_eq_some_iff.mp H
    obtain ⟨t137, A140, H⟩ := H
    replace H : (plan_Write.l0 kj3 a2 t137 l0 (l0.length : Int) 0) = some (r1, r2) := H
    have A14 := Aside0.mk A140
    clear A140
    have H' := Aside0.mk H
    clear H
    go_wp2_with (first | (go_at_call 37; (with_reducible refine (plan_eight.calls a1 t137 _ ?side1 A14.out).mono ?_); (case side1 => exact zq27); rintro e w15 ⟨rfl, hb⟩; have n0_ := Aside0.mk (below_step (zq1) hb); clear HB; have HB := n0_; clear n0_; (try clear hb); (try clear hb2); (try clear hk); (try clear hi)))
    repeat (go_quiet (first | (go_at_call 37; (with_reducible refine (plan_eight.calls a1 t137 _ ?side1 A14.out).mono ?_); (case side1 => exact zq27); rintro e w15 ⟨rfl, hb⟩; have n0_ := Aside0.mk (below_step (zq1) hb); clear HB; have HB := n0_; clear n0_; (try clear hb); (try clear hb2); (try clear hk); (try clear hi))); try go_wp2_with (first | (go_at_call 37; (with_reducible refine (plan_eight.calls a1 t137 _ ?side1 A14.out).mono ?_); (case side1 => exact zq27); rintro e w15 ⟨rfl, hb⟩; have n0_ := Aside0.mk (below_step (zq1) hb); clear HB; have HB := n0_; clear n0_; (try clear hb); (try clear hb2); (try clear hk); (try clear hi))))
    go_loopg [29] kj3 (fun kq v29 w' => ∃ (x29_2 : Int), v29 = .int .i64 x29_2 ∧ Aside0 (plan_Write.l0 kq a2 t137 l0 (l0.length : Int) x29_2 = some (r1, r2)) ∧ Aside0 (kq ≤ kj3) ∧ Aside0 (Below w.heap.size w w'))
    case atStart => exact ⟨(0), (zq6), H', ⟨Nat.le_refl _⟩, ⟨by repeat (first | (with_reducible first | exact HB.out | apply below_alloc | apply pw_below_drewN | apply below_drew1) | exact HB.out)⟩⟩
    case round =>
     clear H'
     try clear c1
     try clear p2
     try clear c6
     try clear c8
     try clear c13
     try clear p2
     obtain ⟨x29_2, rfl, HA, HK2, HB⟩ := hrel
     cases gk with
     | zero => exact absurd HA.out (by simp [plan_Write.l0])
     | succ k2 =>
      have H := HA.out
      clear HA
      simp only [plan_Write.l0] at H
      by_cases c16 : x29_2 < (l0.length : Int)
      ·rw [if_pos c16] at H
       have c16b0 : decide (x29_2 < (l0.length : Int)) = true := decide_eq_true c16
       clear c16
       by_cases c17 : 0 ≤ x29_2
       ·rw [if_pos c17] at H
        have c17b0 : decide (0 ≤ x29_2) = true := decide_eq_true c17
        clear c17
        by_cases c18 : x29_2 < (l0.length : Int)
        ·rw [if_pos c18] at H
         have c18b0 : decide (x29_2 < (l0.length : Int)) = true := decide_eq_true c18
         clear c18
         replace H := Option.bind_eq_some_iff.mp H
         obtain ⟨t140, A190, H⟩ := H
         replace H : (if t140 = true then (if a2 = 1 then ((plan_room.f ((rd_T29 l0 x29_2).f0) ((rd_T29 l0 x29_2).f1) ((rd_T29 l0 x29_2).f2)).bind fun t141 => (if 0 ≤ (((rd_T29 l0 x29_2).f1).size : Int) then (if (((rd_T29 l0 x29_2).f1).size : Int) ≤ (wrap64 (8 - t141)) then (if (wrap64 (8 - t141)) ≤ (t137.size : Int) then ((strings_Trim.f (t137.extract ((((rd_T29 l0 x29_2).f1).size : Int) : Int).toNat ((wrap64 (8 - t141)) : Int).toNat) (⟨#[48]⟩ : ByteArray)).bind fun t142 => (if t142.toList = ([] : List UInt8) then (if 0 ≤ (wrap64 (8 - t141)) then (if ((rd_T29 l0 x29_2).f0).size + (t137.extract ((wrap64 (8 - t141)) : Int).toNat t137.size).size ≤ 9223372036854775807 then (some (((rd_T29 l0 x29_2).f0) ++ (t137.extract ((wrap64 (8 - t141)) : Int).toNat t137.size), 0)) else (none)) else (none)) else (some ((⟨#[]⟩ : ByteArray), 120)))) else (none)) else (none)) else (none))) else (some (t137, 0))) else (plan_Write.l0 k2 a2 t137 l0 (l0.length : Int) (wrap64 (x29_2 + 1)))) = some (r1, r2) := H
         have A19 := Aside0.mk A190
         clear A190
         by_cases c20 : t140 = true
         ·subst c20
          have H1 : (if a2 = 1 then ((plan_room.f ((rd_T29 l0 x29_2).f0) ((rd_T29 l0 x29_2).f1) ((rd_T29 l0 x29_2).f2)).bind fun t141 => (if 0 ≤ (((rd_T29 l0 x29_2).f1).size : Int) then (if (((rd_T29 l0 x29_2).f1).size : Int) ≤ (wrap64 (8 - t141)) then (if (wrap64 (8 - t141)) ≤ (t137.size : Int) then ((strings_Trim.f (t137.extract ((((rd_T29 l0 x29_2).f1).size : Int) : Int).toNat ((wrap64 (8 - t141)) : Int).toNat) (⟨#[48]⟩ : ByteArray)).bind fun t142 => (if t142.toList = ([] : List UInt8) then (if 0 ≤ (wrap64 (8 - t141)) then (if ((rd_T29 l0 x29_2).f0).size + (t137.extract ((wrap64 (8 - t141)) : Int).toNat t137.size).size ≤ 9223372036854775807 then (some (((rd_T29 l0 x29_2).f0) ++ (t137.extract ((wrap64 (8 - t141)) : Int).toNat t137.size), 0)) else (none)) else (none)) else (some ((⟨#[]⟩ : ByteArray), 120)))) else (none)) else (none)) else (none))) else (some (t137, 0))) = some (r1, r2) := by rw [if_pos rfl] at H; exact H
          clear H
          have H := H1
          clear H1
          by_cases c21 : a2 = 1
          ·rw [if_pos c21] at H
           have c21b0 : (a2 == 1) = true := beq_iff_eq.mpr c21
           have c21b1 : (a2 != 1) = false := bne_eq_false_iff_eq.mpr c21
           clear c21
           replace H := Option.bind_eq_some_iff.mp H
           obtain ⟨t141, A220, H⟩ := H
           replace H : (if 0 ≤ (((rd_T29 l0 x29_2).f1).size : Int) then (if (((rd_T29 l0 x29_2).f1).size : Int) ≤ (wrap64 (8 - t141)) then (if (wrap64 (8 - t141)) ≤ (t137.size : Int) then ((strings_Trim.f (t137.extract ((((rd_T29 l0 x29_2).f1).size : Int) : Int).toNat ((wrap64 (8 - t141)) : Int).toNat) (⟨#[48]⟩ : ByteArray)).bind fun t142 => (if t142.toList = ([] : List UInt8) then (if 0 ≤ (wrap64 (8 - t141)) then (if ((rd_T29 l0 x29_2).f0).size + (t137.extract ((wrap64 (8 - t141)) : Int).toNat t137.size).size ≤ 9223372036854775807 then (some (((rd_T29 l0 x29_2).f0) ++ (t137.extract ((wrap64 (8 - t141)) : Int).toNat t137.size), 0)) else (none)) else (none)) else (some ((⟨#[]⟩ : ByteArray), 120)))) else (none)) else (none)) else (none)) = some (r1, r2) := H
           have A22 := Aside0.mk A220
           clear A220
           by_cases c23 : 0 ≤ (((rd_T29 l0 x29_2).f1).size : Int)
           ·rw [if_pos c23] at H
            have c23b0 := eq_true c23
            have c23b1 : decide (0 ≤ (((rd_T29 l0 x29_2).f1).size : Int)) = true := decide_eq_true c23
            clear c23
            by_cases c24 : (((rd_T29 l0 x29_2).f1).size : Int) ≤ (wrap64 (8 - t141))
            ·rw [if_pos c24] at H
             have c24b0 := eq_true c24
             have c24b1 : decide ((((rd_T29 l0 x29_2).f1).size : Int) ≤ (wrap64 (8 - t141))) = true := decide_eq_true c24
             clear c24
             by_cases c25 : (wrap64 (8 - t141)) ≤ (t137.size : Int)
             ·rw [if_pos c25] at H
              have c25b0 := eq_true c25
              have c25b1 : decide ((wrap64 (8 - t141)) ≤ (t137.size : Int)) = true := decide_eq_true c25
              clear c25
              replace H := Option.bind_eq_some_iff.mp H
              obtain ⟨t142, A260, H⟩ := H
              replace H : (if t142.toList = ([] : List UInt8) then (if 0 ≤ (wrap64 (8 - t141)) then (if ((rd_T29 l0 x29_2).f0).size + (t137.extract ((wrap64 (8 - t141)) : Int).toNat t137.size).size ≤ 9223372036854775807 then (some (((rd_T29 l0 x29_2).f0) ++ (t137.extract ((wrap64 (8 - t141)) : Int).toNat t137.size), 0)) else (none)) else (none)) else (some ((⟨#[]⟩ : ByteArray), 120))) = some (r1, r2) := H
              have A26 := Aside0.mk A260
              clear A260
              by_cases c27 : t142.toList = ([] : List UInt8)
              ·rw [if_pos c27] at H
               have c27b0 : (t142.toList == ([] : List UInt8)) = true := beq_iff_eq.mpr c27
               have c27b1 : (t142.toList != ([] : List UInt8)) = false := bne_eq_false_iff_eq.mpr c27
               clear c27
               obtain ⟨ji28, hji28⟩ : ∃ j_ : Int, (wrap64 (8 - t141)) = j_ := ⟨_, rfl⟩
               replace H : (if 0 ≤ (ji28) then (if ((rd_T29 l0 x29_2).f0).size + (t137.extract ((ji28) : Int).toNat t137.size).size ≤ 9223372036854775807 then (some (((rd_T29 l0 x29_2).f0) ++ (t137.extract ((ji28) : Int).toNat t137.size), 0)) else (none)) else (none)) = some (r1, r2) := by first | (rw [hji28] at H; exact H) | (simp only [hji28] at H ⊢; exact H)
               (try rw [hji28] at c24b0)
               (try rw [hji28] at c24b1)
               (try rw [hji28] at c25b0)
               (try rw [hji28] at c25b1)
               (try rw [hji28] at A19)
               (try rw [hji28] at A22)
               (try rw [hji28] at A26)
               have hji28w : (IntKind.i64.wrap (8 - t141)) = ji28 := (i64_w _).trans hji28
               by_cases c29 : 0 ≤ (ji28)
               ·rw [if_pos c29] at H
                have c29b0 := eq_true c29
                have c29b1 : decide (0 ≤ (ji28)) = true := decide_eq_true c29
                clear c29
                have c30b0 := eq_true (of_decide_eq_true (zq14) : (ji28) ≤ (t137.size : Int))
                by_cases c31 : ((rd_T29 l0 x29_2).f0).size + (t137.extract ((ji28) : Int).toNat t137.size).size ≤ 9223372036854775807
                ·rw [if_pos c31] at H
                 have c31b0 := eq_true c31
                 have c31b1 : decide (((rd_T29 l0 x29_2).f0).size + (t137.extract ((ji28) : Int).toNat t137.size).size ≤ 9223372036854775807) = true := decide_eq_true c31
                 try have c31b2 : (9223372036854775807 < ((rd_T29 l0 x29_2).f0).size + (t137.extract ((ji28) : Int).toNat t137.size).size) = False := eq_false (Nat.not_lt.2 c31)
                 simp only [Option.some.injEq, Prod.mk.injEq] at H
                 obtain ⟨rfl, rfl⟩ := H
                 have p138 : 0 ≤ (x29_2 : Int) := of_decide_eq_true (zq14)
                 have q138 : x29_2 < (l0.length : Int) := of_decide_eq_true (zq14)
                 obtain ⟨ad138, e138, hx138_0, hx138_1, hx138_2⟩ := at_T29 HR0.out x29_2 p138 q138
                 cases e138
                 replace hx138_0 := (HB.out.cell (World.block_lt_of_cell? w _ hx138_0)).trans hx138_0
                 replace hx138_1 := (HB.out.cell (World.block_lt_of_cell? w _ hx138_1)).trans hx138_1
                 replace hx138_2 := (HB.out.cell (World.block_lt_of_cell? w _ hx138_2)).trans hx138_2
                 replace p138 := eq_true p138
                 replace q138 := eq_true q138
                 go_wp2_with (first | ((with_reducible refine gate_dst (N := 10) rfl ?_); refine box_event ?hg (N := 10) ?hd (cs := #[.string (⟨#[]⟩ : ByteArray), .string (⟨#[]⟩ : ByteArray), .int .i64 0]) (t := 29) ?hr ?_; (case hd => rfl); (case hg => rfl); (case hr => exact zq0); intro gb139 hg w32 hbox hb; have n0_ := Aside0.mk (below_step (zq1) hb); have n1_ := Aside0.mk (hbox); have n2_ := Aside0.mk ((zq2 : w.heap.size ≤ gb139)); have n3_ := Aside0.mk ((zq2 : w.heap.size ≤ gb139)); clear HB; have HB := n0_; have BK139 := n1_; have GW139 := n2_; have GE139 := n3_; clear n0_ n1_ n2_ n3_; clear hb hbox hg; have hcz33_0 : w32.cell? ⟨gb139, 0, none⟩ = some (.string (⟨#[]⟩ : ByteArray)) := (blk_cell BK139.out 0).trans rfl; have hcz33_1 : w32.cell? ⟨gb139, 1, none⟩ = some (.string (⟨#[]⟩ : ByteArray)) := (blk_cell BK139.out 1).trans rfl; have hcz33_2 : w32.cell? ⟨gb139, 2, none⟩ = some (.int .i64 0) := (blk_cell BK139.out 2).trans rfl; have hfz33_0 := blk_frozen BK139.out 0; have hfz33_1 := blk_frozen BK139.out 1; have hfz33_2 := blk_frozen BK139.out 2) | (go_at_call 38; (with_reducible refine (strings_HasPrefix.calls t137 ((rd_T29 l0 x29_2).f1) true _ A19.out).mono ?_); rintro e w34 ⟨rfl, hb⟩; have n0_ := Aside0.mk (blk_below (g := gb139) (o := .cells #[.string ((rd_T29 l0 x29_2).f0), .string ((rd_T29 l0 x29_2).f1), .int .i64 ((rd_T29 l0 x29_2).f2)] 29 (0, 0)) (zq28) hb); have n1_ := Aside0.mk (below_step (zq29) hb); clear BK139; clear HB; have BK139 := n0_; have HB := n1_; clear n0_ n1_; (try clear hb); (try clear hb2); (try clear hk); (try clear hi); have hcz35_0 : w34.cell? ⟨gb139, 0, none⟩ = some (.string ((rd_T29 l0 x29_2).f0)) := (blk_cell BK139.out 0).trans rfl; have hcz35_1 : w34.cell? ⟨gb139, 1, none⟩ = some (.string ((rd_T29 l0 x29_2).f1)) := (blk_cell BK139.out 1).trans rfl; have hcz35_2 : w34.cell? ⟨gb139, 2, none⟩ = some (.int .i64 ((rd_T29 l0 x29_2).f2)) := (blk_cell BK139.out 2).trans rfl; have hfz35_0 := blk_frozen BK139.out 0; have hfz35_1 := blk_frozen BK139.out 1; have hfz35_2 := blk_frozen BK139.out 2) | (go_at_call 39; (with_reducible refine (plan_room.calls ((rd_T29 l0 x29_2).f0) ((rd_T29 l0 x29_2).f1) ((rd_T29 l0 x29_2).f2) t141 _ A22.out).mono ?_); rintro e w36 ⟨rfl, hb⟩; have n0_ := Aside0.mk (blk_below (g := gb139) (o := .cells #[.string ((rd_T29 l0 x29_2).f0), .string ((rd_T29 l0 x29_2).f1), .int .i64 ((rd_T29 l0 x29_2).f2)] 29 (0, 0)) (zq30) hb); have n1_ := Aside0.mk (below_step (zq29) hb); clear BK139; clear HB; have BK139 := n0_; have HB := n1_; clear n0_ n1_; (try clear hb); (try clear hb2); (try clear hk); (try clear hi); have hcz37_0 : w36.cell? ⟨gb139, 0, none⟩ = some (.string ((rd_T29 l0 x29_2).f0)) := (blk_cell BK139.out 0).trans rfl; have hcz37_1 : w36.cell? ⟨gb139, 1, none⟩ = some (.string ((rd_T29 l0 x29_2).f1)) := (blk_cell BK139.out 1).trans rfl; have hcz37_2 : w36.cell? ⟨gb139, 2, none⟩ = some (.int .i64 ((rd_T29 l0 x29_2).f2)) := (blk_cell BK139.out 2).trans rfl; have hfz37_0 := blk_frozen BK139.out 0; have hfz37_1 := blk_frozen BK139.out 1; have hfz37_2 := blk_frozen BK139.out 2) | (go_at_call 40; (first | (with_reducible refine (strings_Trim.calls (t137.extract ((((rd_T29 l0 x29_2).f1).size : Int) : Int).toNat ((ji28) : Int).toNat) (⟨#[48]⟩ : ByteArray) t142 _ A26.out).mono ?_) | (refine calls_of_args (args' := #[.string (t137.extract ((((rd_T29 l0 x29_2).f1).size : Int) : Int).toNat ((ji28) : Int).toNat), .string (⟨#[48]⟩ : ByteArray)]) (zq31) ?_; (with_reducible refine (strings_Trim.calls (t137.extract ((((rd_T29 l0 x29_2).f1).size : Int) : Int).toNat ((ji28) : Int).toNat) (⟨#[48]⟩ : ByteArray) t142 _ A26.out).mono ?_))); rintro e w38 ⟨rfl, hb⟩; have n0_ := Aside0.mk (blk_below (g := gb139) (o := .cells #[.string ((rd_T29 l0 x29_2).f0), .string ((rd_T29 l0 x29_2).f1), .int .i64 ((rd_T29 l0 x29_2).f2)] 29 (0, 0)) (zq30) hb); have n1_ := Aside0.mk (below_step (zq29) hb); clear BK139; clear HB; have BK139 := n0_; have HB := n1_; clear n0_ n1_; (try clear hb); (try clear hb2); (try clear hk); (try clear hi); have hcz39_0 : w38.cell? ⟨gb139, 0, none⟩ = some (.string ((rd_T29 l0 x29_2).f0)) := (blk_cell BK139.out 0).trans rfl; have hcz39_1 : w38.cell? ⟨gb139, 1, none⟩ = some (.string ((rd_T29 l0 x29_2).f1)) := (blk_cell BK139.out 1).trans rfl; have hcz39_2 : w38.cell? ⟨gb139, 2, none⟩ = some (.int .i64 ((rd_T29 l0 x29_2).f2)) := (blk_cell BK139.out 2).trans rfl; have hfz39_0 := blk_frozen BK139.out 0; have hfz39_1 := blk_frozen BK139.out 1; have hfz39_2 := blk_frozen BK139.out 2))
                 repeat (go_quiet (first | ((with_reducible refine gate_dst (N := 10) rfl ?_); refine box_event ?hg (N := 10) ?hd (cs := #[.string (⟨#[]⟩ : ByteArray), .string (⟨#[]⟩ : ByteArray), .int .i64 0]) (t := 29) ?hr ?_; (case hd => rfl); (case hg => rfl); (case hr => exact zq0); intro gb139 hg w32 hbox hb; have n0_ := Aside0.mk (below_step (zq1) hb); have n1_ := Aside0.mk (hbox); have n2_ := Aside0.mk ((zq2 : w.heap.size ≤ gb139)); have n3_ := Aside0.mk ((zq2 : w.heap.size ≤ gb139)); clear HB; have HB := n0_; have BK139 := n1_; have GW139 := n2_; have GE139 := n3_; clear n0_ n1_ n2_ n3_; clear hb hbox hg; have hcz33_0 : w32.cell? ⟨gb139, 0, none⟩ = some (.string (⟨#[]⟩ : ByteArray)) := (blk_cell BK139.out 0).trans rfl; have hcz33_1 : w32.cell? ⟨gb139, 1, none⟩ = some (.string (⟨#[]⟩ : ByteArray)) := (blk_cell BK139.out 1).trans rfl; have hcz33_2 : w32.cell? ⟨gb139, 2, none⟩ = some (.int .i64 0) := (blk_cell BK139.out 2).trans rfl; have hfz33_0 := blk_frozen BK139.out 0; have hfz33_1 := blk_frozen BK139.out 1; have hfz33_2 := blk_frozen BK139.out 2) | (go_at_call 38; (with_reducible refine (strings_HasPrefix.calls t137 ((rd_T29 l0 x29_2).f1) true _ A19.out).mono ?_); rintro e w34 ⟨rfl, hb⟩; have n0_ := Aside0.mk (blk_below (g := gb139) (o := .cells #[.string ((rd_T29 l0 x29_2).f0), .string ((rd_T29 l0 x29_2).f1), .int .i64 ((rd_T29 l0 x29_2).f2)] 29 (0, 0)) (zq28) hb); have n1_ := Aside0.mk (below_step (zq29) hb); clear BK139; clear HB; have BK139 := n0_; have HB := n1_; clear n0_ n1_; (try clear hb); (try clear hb2); (try clear hk); (try clear hi); have hcz35_0 : w34.cell? ⟨gb139, 0, none⟩ = some (.string ((rd_T29 l0 x29_2).f0)) := (blk_cell BK139.out 0).trans rfl; have hcz35_1 : w34.cell? ⟨gb139, 1, none⟩ = some (.string ((rd_T29 l0 x29_2).f1)) := (blk_cell BK139.out 1).trans rfl; have hcz35_2 : w34.cell? ⟨gb139, 2, none⟩ = some (.int .i64 ((rd_T29 l0 x29_2).f2)) := (blk_cell BK139.out 2).trans rfl; have hfz35_0 := blk_frozen BK139.out 0; have hfz35_1 := blk_frozen BK139.out 1; have hfz35_2 := blk_frozen BK139.out 2) | (go_at_call 39; (with_reducible refine (plan_room.calls ((rd_T29 l0 x29_2).f0) ((rd_T29 l0 x29_2).f1) ((rd_T29 l0 x29_2).f2) t141 _ A22.out).mono ?_); rintro e w36 ⟨rfl, hb⟩; have n0_ := Aside0.mk (blk_below (g := gb139) (o := .cells #[.string ((rd_T29 l0 x29_2).f0), .string ((rd_T29 l0 x29_2).f1), .int .i64 ((rd_T29 l0 x29_2).f2)] 29 (0, 0)) (zq30) hb); have n1_ := Aside0.mk (below_step (zq29) hb); clear BK139; clear HB; have BK139 := n0_; have HB := n1_; clear n0_ n1_; (try clear hb); (try clear hb2); (try clear hk); (try clear hi); have hcz37_0 : w36.cell? ⟨gb139, 0, none⟩ = some (.string ((rd_T29 l0 x29_2).f0)) := (blk_cell BK139.out 0).trans rfl; have hcz37_1 : w36.cell? ⟨gb139, 1, none⟩ = some (.string ((rd_T29 l0 x29_2).f1)) := (blk_cell BK139.out 1).trans rfl; have hcz37_2 : w36.cell? ⟨gb139, 2, none⟩ = some (.int .i64 ((rd_T29 l0 x29_2).f2)) := (blk_cell BK139.out 2).trans rfl; have hfz37_0 := blk_frozen BK139.out 0; have hfz37_1 := blk_frozen BK139.out 1; have hfz37_2 := blk_frozen BK139.out 2) | (go_at_call 40; (first | (with_reducible refine (strings_Trim.calls (t137.extract ((((rd_T29 l0 x29_2).f1).size : Int) : Int).toNat ((ji28) : Int).toNat) (⟨#[48]⟩ : ByteArray) t142 _ A26.out).mono ?_) | (refine calls_of_args (args' := #[.string (t137.extract ((((rd_T29 l0 x29_2).f1).size : Int) : Int).toNat ((ji28) : Int).toNat), .string (⟨#[48]⟩ : ByteArray)]) (zq31) ?_; (with_reducible refine (strings_Trim.calls (t137.extract ((((rd_T29 l0 x29_2).f1).size : Int) : Int).toNat ((ji28) : Int).toNat) (⟨#[48]⟩ : ByteArray) t142 _ A26.out).mono ?_))); rintro e w38 ⟨rfl, hb⟩; have n0_ := Aside0.mk (blk_below (g := gb139) (o := .cells #[.string ((rd_T29 l0 x29_2).f0), .string ((rd_T29 l0 x29_2).f1), .int .i64 ((rd_T29 l0 x29_2).f2)] 29 (0, 0)) (zq30) hb); have n1_ := Aside0.mk (below_step (zq29) hb); clear BK139; clear HB; have BK139 := n0_; have HB := n1_; clear n0_ n1_; (try clear hb); (try clear hb2); (try clear hk); (try clear hi); have hcz39_0 : w38.cell? ⟨gb139, 0, none⟩ = some (.string ((rd_T29 l0 x29_2).f0)) := (blk_cell BK139.out 0).trans rfl; have hcz39_1 : w38.cell? ⟨gb139, 1, none⟩ = some (.string ((rd_T29 l0 x29_2).f1)) := (blk_cell BK139.out 1).trans rfl; have hcz39_2 : w38.cell? ⟨gb139, 2, none⟩ = some (.int .i64 ((rd_T29 l0 x29_2).f2)) := (blk_cell BK139.out 2).trans rfl; have hfz39_0 := blk_frozen BK139.out 0; have hfz39_1 := blk_frozen BK139.out 1; have hfz39_2 := blk_frozen BK139.out 2)); try go_wp2_with (first | ((with_reducible refine gate_dst (N := 10) rfl ?_); refine box_event ?hg (N := 10) ?hd (cs := #[.string (⟨#[]⟩ : ByteArray), .string (⟨#[]⟩ : ByteArray), .int .i64 0]) (t := 29) ?hr ?_; (case hd => rfl); (case hg => rfl); (case hr => exact zq0); intro gb139 hg w32 hbox hb; have n0_ := Aside0.mk (below_step (zq1) hb); have n1_ := Aside0.mk (hbox); have n2_ := Aside0.mk ((zq2 : w.heap.size ≤ gb139)); have n3_ := Aside0.mk ((zq2 : w.heap.size ≤ gb139)); clear HB; have HB := n0_; have BK139 := n1_; have GW139 := n2_; have GE139 := n3_; clear n0_ n1_ n2_ n3_; clear hb hbox hg; have hcz33_0 : w32.cell? ⟨gb139, 0, none⟩ = some (.string (⟨#[]⟩ : ByteArray)) := (blk_cell BK139.out 0).trans rfl; have hcz33_1 : w32.cell? ⟨gb139, 1, none⟩ = some (.string (⟨#[]⟩ : ByteArray)) := (blk_cell BK139.out 1).trans rfl; have hcz33_2 : w32.cell? ⟨gb139, 2, none⟩ = some (.int .i64 0) := (blk_cell BK139.out 2).trans rfl; have hfz33_0 := blk_frozen BK139.out 0; have hfz33_1 := blk_frozen BK139.out 1; have hfz33_2 := blk_frozen BK139.out 2) | (go_at_call 38; (with_reducible refine (strings_HasPrefix.calls t137 ((rd_T29 l0 x29_2).f1) true _ A19.out).mono ?_); rintro e w34 ⟨rfl, hb⟩; have n0_ := Aside0.mk (blk_below (g := gb139) (o := .cells #[.string ((rd_T29 l0 x29_2).f0), .string ((rd_T29 l0 x29_2).f1), .int .i64 ((rd_T29 l0 x29_2).f2)] 29 (0, 0)) (zq28) hb); have n1_ := Aside0.mk (below_step (zq29) hb); clear BK139; clear HB; have BK139 := n0_; have HB := n1_; clear n0_ n1_; (try clear hb); (try clear hb2); (try clear hk); (try clear hi); have hcz35_0 : w34.cell? ⟨gb139, 0, none⟩ = some (.string ((rd_T29 l0 x29_2).f0)) := (blk_cell BK139.out 0).trans rfl; have hcz35_1 : w34.cell? ⟨gb139, 1, none⟩ = some (.string ((rd_T29 l0 x29_2).f1)) := (blk_cell BK139.out 1).trans rfl; have hcz35_2 : w34.cell? ⟨gb139, 2, none⟩ = some (.int .i64 ((rd_T29 l0 x29_2).f2)) := (blk_cell BK139.out 2).trans rfl; have hfz35_0 := blk_frozen BK139.out 0; have hfz35_1 := blk_frozen BK139.out 1; have hfz35_2 := blk_frozen BK139.out 2) | (go_at_call 39; (with_reducible refine (plan_room.calls ((rd_T29 l0 x29_2).f0) ((rd_T29 l0 x29_2).f1) ((rd_T29 l0 x29_2).f2) t141 _ A22.out).mono ?_); rintro e w36 ⟨rfl, hb⟩; have n0_ := Aside0.mk (blk_below (g := gb139) (o := .cells #[.string ((rd_T29 l0 x29_2).f0), .string ((rd_T29 l0 x29_2).f1), .int .i64 ((rd_T29 l0 x29_2).f2)] 29 (0, 0)) (zq30) hb); have n1_ := Aside0.mk (below_step (zq29) hb); clear BK139; clear HB; have BK139 := n0_; have HB := n1_; clear n0_ n1_; (try clear hb); (try clear hb2); (try clear hk); (try clear hi); have hcz37_0 : w36.cell? ⟨gb139, 0, none⟩ = some (.string ((rd_T29 l0 x29_2).f0)) := (blk_cell BK139.out 0).trans rfl; have hcz37_1 : w36.cell? ⟨gb139, 1, none⟩ = some (.string ((rd_T29 l0 x29_2).f1)) := (blk_cell BK139.out 1).trans rfl; have hcz37_2 : w36.cell? ⟨gb139, 2, none⟩ = some (.int .i64 ((rd_T29 l0 x29_2).f2)) := (blk_cell BK139.out 2).trans rfl; have hfz37_0 := blk_frozen BK139.out 0; have hfz37_1 := blk_frozen BK139.out 1; have hfz37_2 := blk_frozen BK139.out 2) | (go_at_call 40; (first | (with_reducible refine (strings_Trim.calls (t137.extract ((((rd_T29 l0 x29_2).f1).size : Int) : Int).toNat ((ji28) : Int).toNat) (⟨#[48]⟩ : ByteArray) t142 _ A26.out).mono ?_) | (refine calls_of_args (args' := #[.string (t137.extract ((((rd_T29 l0 x29_2).f1).size : Int) : Int).toNat ((ji28) : Int).toNat), .string (⟨#[48]⟩ : ByteArray)]) (zq31) ?_; (with_reducible refine (strings_Trim.calls (t137.extract ((((rd_T29 l0 x29_2).f1).size : Int) : Int).toNat ((ji28) : Int).toNat) (⟨#[48]⟩ : ByteArray) t142 _ A26.out).mono ?_))); rintro e w38 ⟨rfl, hb⟩; have n0_ := Aside0.mk (blk_below (g := gb139) (o := .cells #[.string ((rd_T29 l0 x29_2).f0), .string ((rd_T29 l0 x29_2).f1), .int .i64 ((rd_T29 l0 x29_2).f2)] 29 (0, 0)) (zq30) hb); have n1_ := Aside0.mk (below_step (zq29) hb); clear BK139; clear HB; have BK139 := n0_; have HB := n1_; clear n0_ n1_; (try clear hb); (try clear hb2); (try clear hk); (try clear hi); have hcz39_0 : w38.cell? ⟨gb139, 0, none⟩ = some (.string ((rd_T29 l0 x29_2).f0)) := (blk_cell BK139.out 0).trans rfl; have hcz39_1 : w38.cell? ⟨gb139, 1, none⟩ = some (.string ((rd_T29 l0 x29_2).f1)) := (blk_cell BK139.out 1).trans rfl; have hcz39_2 : w38.cell? ⟨gb139, 2, none⟩ = some (.int .i64 ((rd_T29 l0 x29_2).f2)) := (blk_cell BK139.out 2).trans rfl; have hfz39_0 := blk_frozen BK139.out 0; have hfz39_1 := blk_frozen BK139.out 1; have hfz39_2 := blk_frozen BK139.out 2)))
                 go_ret2
                 exact ⟨by first | rfl | (simp [errW_none, errW_some] <;> rfl) | (simp only [← hji28]; first | rfl | (simp [errW_none, errW_some] <;> rfl)) | (simp [*, errW_none, errW_some] <;> rfl), by repeat (first | (with_reducible first | exact HB.out | apply below_alloc | apply pw_below_drewN | apply below_drew1 | refine below_set ?_ GE139.out) | exact HB.out)⟩
                ·rw [if_neg c31] at H
                 exact absurd H (by simp)
               ·rw [if_neg c29] at H
                exact absurd H (by simp)
              ·rw [if_neg c27] at H
               have c27b0 : (t142.toList == ([] : List UInt8)) = false := beq_eq_false_iff_ne.mpr c27
               have c27b1 : (t142.toList != ([] : List UInt8)) = true := bne_iff_ne.mpr c27
               simp only [Option.some.injEq, Prod.mk.injEq] at H
               obtain ⟨rfl, rfl⟩ := H
               have p138 : 0 ≤ (x29_2 : Int) := of_decide_eq_true (zq14)
               have q138 : x29_2 < (l0.length : Int) := of_decide_eq_true (zq14)
               obtain ⟨ad138, e138, hx138_0, hx138_1, hx138_2⟩ := at_T29 HR0.out x29_2 p138 q138
               cases e138
               replace hx138_0 := (HB.out.cell (World.block_lt_of_cell? w _ hx138_0)).trans hx138_0
               replace hx138_1 := (HB.out.cell (World.block_lt_of_cell? w _ hx138_1)).trans hx138_1
               replace hx138_2 := (HB.out.cell (World.block_lt_of_cell? w _ hx138_2)).trans hx138_2
               replace p138 := eq_true p138
               replace q138 := eq_true q138
               go_wp2_with (first | ((with_reducible refine gate_dst (N := 10) rfl ?_); refine box_event ?hg (N := 10) ?hd (cs := #[.string (⟨#[]⟩ : ByteArray), .string (⟨#[]⟩ : ByteArray), .int .i64 0]) (t := 29) ?hr ?_; (case hd => rfl); (case hg => rfl); (case hr => exact zq0); intro gb139 hg w40 hbox hb; have n0_ := Aside0.mk (below_step (zq1) hb); have n1_ := Aside0.mk (hbox); have n2_ := Aside0.mk ((zq2 : w.heap.size ≤ gb139)); have n3_ := Aside0.mk ((zq2 : w.heap.size ≤ gb139)); clear HB; have HB := n0_; have BK139 := n1_; have GW139 := n2_; have GE139 := n3_; clear n0_ n1_ n2_ n3_; clear hb hbox hg; have hcz41_0 : w40.cell? ⟨gb139, 0, none⟩ = some (.string (⟨#[]⟩ : ByteArray)) := (blk_cell BK139.out 0).trans rfl; have hcz41_1 : w40.cell? ⟨gb139, 1, none⟩ = some (.string (⟨#[]⟩ : ByteArray)) := (blk_cell BK139.out 1).trans rfl; have hcz41_2 : w40.cell? ⟨gb139, 2, none⟩ = some (.int .i64 0) := (blk_cell BK139.out 2).trans rfl; have hfz41_0 := blk_frozen BK139.out 0; have hfz41_1 := blk_frozen BK139.out 1; have hfz41_2 := blk_frozen BK139.out 2) | (go_at_call 38; (with_reducible refine (strings_HasPrefix.calls t137 ((rd_T29 l0 x29_2).f1) true _ A19.out).mono ?_); rintro e w42 ⟨rfl, hb⟩; have n0_ := Aside0.mk (blk_below (g := gb139) (o := .cells #[.string ((rd_T29 l0 x29_2).f0), .string ((rd_T29 l0 x29_2).f1), .int .i64 ((rd_T29 l0 x29_2).f2)] 29 (0, 0)) (zq28) hb); have n1_ := Aside0.mk (below_step (zq29) hb); clear BK139; clear HB; have BK139 := n0_; have HB := n1_; clear n0_ n1_; (try clear hb); (try clear hb2); (try clear hk); (try clear hi); have hcz43_0 : w42.cell? ⟨gb139, 0, none⟩ = some (.string ((rd_T29 l0 x29_2).f0)) := (blk_cell BK139.out 0).trans rfl; have hcz43_1 : w42.cell? ⟨gb139, 1, none⟩ = some (.string ((rd_T29 l0 x29_2).f1)) := (blk_cell BK139.out 1).trans rfl; have hcz43_2 : w42.cell? ⟨gb139, 2, none⟩ = some (.int .i64 ((rd_T29 l0 x29_2).f2)) := (blk_cell BK139.out 2).trans rfl; have hfz43_0 := blk_frozen BK139.out 0; have hfz43_1 := blk_frozen BK139.out 1; have hfz43_2 := blk_frozen BK139.out 2) | (go_at_call 39; (with_reducible refine (plan_room.calls ((rd_T29 l0 x29_2).f0) ((rd_T29 l0 x29_2).f1) ((rd_T29 l0 x29_2).f2) t141 _ A22.out).mono ?_); rintro e w44 ⟨rfl, hb⟩; have n0_ := Aside0.mk (blk_below (g := gb139) (o := .cells #[.string ((rd_T29 l0 x29_2).f0), .string ((rd_T29 l0 x29_2).f1), .int .i64 ((rd_T29 l0 x29_2).f2)] 29 (0, 0)) (zq30) hb); have n1_ := Aside0.mk (below_step (zq29) hb); clear BK139; clear HB; have BK139 := n0_; have HB := n1_; clear n0_ n1_; (try clear hb); (try clear hb2); (try clear hk); (try clear hi); have hcz45_0 : w44.cell? ⟨gb139, 0, none⟩ = some (.string ((rd_T29 l0 x29_2).f0)) := (blk_cell BK139.out 0).trans rfl; have hcz45_1 : w44.cell? ⟨gb139, 1, none⟩ = some (.string ((rd_T29 l0 x29_2).f1)) := (blk_cell BK139.out 1).trans rfl; have hcz45_2 : w44.cell? ⟨gb139, 2, none⟩ = some (.int .i64 ((rd_T29 l0 x29_2).f2)) := (blk_cell BK139.out 2).trans rfl; have hfz45_0 := blk_frozen BK139.out 0; have hfz45_1 := blk_frozen BK139.out 1; have hfz45_2 := blk_frozen BK139.out 2) | (go_at_call 40; (first | (with_reducible refine (strings_Trim.calls (t137.extract ((((rd_T29 l0 x29_2).f1).size : Int) : Int).toNat ((wrap64 (8 - t141)) : Int).toNat) (⟨#[48]⟩ : ByteArray) t142 _ A26.out).mono ?_) | (refine calls_of_args (args' := #[.string (t137.extract ((((rd_T29 l0 x29_2).f1).size : Int) : Int).toNat ((wrap64 (8 - t141)) : Int).toNat), .string (⟨#[48]⟩ : ByteArray)]) (zq31) ?_; (with_reducible refine (strings_Trim.calls (t137.extract ((((rd_T29 l0 x29_2).f1).size : Int) : Int).toNat ((wrap64 (8 - t141)) : Int).toNat) (⟨#[48]⟩ : ByteArray) t142 _ A26.out).mono ?_))); rintro e w46 ⟨rfl, hb⟩; have n0_ := Aside0.mk (blk_below (g := gb139) (o := .cells #[.string ((rd_T29 l0 x29_2).f0), .string ((rd_T29 l0 x29_2).f1), .int .i64 ((rd_T29 l0 x29_2).f2)] 29 (0, 0)) (zq30) hb); have n1_ := Aside0.mk (below_step (zq29) hb); clear BK139; clear HB; have BK139 := n0_; have HB := n1_; clear n0_ n1_; (try clear hb); (try clear hb2); (try clear hk); (try clear hi)))
               repeat (go_quiet (first | ((with_reducible refine gate_dst (N := 10) rfl ?_); refine box_event ?hg (N := 10) ?hd (cs := #[.string (⟨#[]⟩ : ByteArray), .string (⟨#[]⟩ : ByteArray), .int .i64 0]) (t := 29) ?hr ?_; (case hd => rfl); (case hg => rfl); (case hr => exact zq0); intro gb139 hg w40 hbox hb; have n0_ := Aside0.mk (below_step (zq1) hb); have n1_ := Aside0.mk (hbox); have n2_ := Aside0.mk ((zq2 : w.heap.size ≤ gb139)); have n3_ := Aside0.mk ((zq2 : w.heap.size ≤ gb139)); clear HB; have HB := n0_; have BK139 := n1_; have GW139 := n2_; have GE139 := n3_; clear n0_ n1_ n2_ n3_; clear hb hbox hg; have hcz41_0 : w40.cell? ⟨gb139, 0, none⟩ = some (.string (⟨#[]⟩ : ByteArray)) := (blk_cell BK139.out 0).trans rfl; have hcz41_1 : w40.cell? ⟨gb139, 1, none⟩ = some (.string (⟨#[]⟩ : ByteArray)) := (blk_cell BK139.out 1).trans rfl; have hcz41_2 : w40.cell? ⟨gb139, 2, none⟩ = some (.int .i64 0) := (blk_cell BK139.out 2).trans rfl; have hfz41_0 := blk_frozen BK139.out 0; have hfz41_1 := blk_frozen BK139.out 1; have hfz41_2 := blk_frozen BK139.out 2) | (go_at_call 38; (with_reducible refine (strings_HasPrefix.calls t137 ((rd_T29 l0 x29_2).f1) true _ A19.out).mono ?_); rintro e w42 ⟨rfl, hb⟩; have n0_ := Aside0.mk (blk_below (g := gb139) (o := .cells #[.string ((rd_T29 l0 x29_2).f0), .string ((rd_T29 l0 x29_2).f1), .int .i64 ((rd_T29 l0 x29_2).f2)] 29 (0, 0)) (zq28) hb); have n1_ := Aside0.mk (below_step (zq29) hb); clear BK139; clear HB; have BK139 := n0_; have HB := n1_; clear n0_ n1_; (try clear hb); (try clear hb2); (try clear hk); (try clear hi); have hcz43_0 : w42.cell? ⟨gb139, 0, none⟩ = some (.string ((rd_T29 l0 x29_2).f0)) := (blk_cell BK139.out 0).trans rfl; have hcz43_1 : w42.cell? ⟨gb139, 1, none⟩ = some (.string ((rd_T29 l0 x29_2).f1)) := (blk_cell BK139.out 1).trans rfl; have hcz43_2 : w42.cell? ⟨gb139, 2, none⟩ = some (.int .i64 ((rd_T29 l0 x29_2).f2)) := (blk_cell BK139.out 2).trans rfl; have hfz43_0 := blk_frozen BK139.out 0; have hfz43_1 := blk_frozen BK139.out 1; have hfz43_2 := blk_frozen BK139.out 2) | (go_at_call 39; (with_reducible refine (plan_room.calls ((rd_T29 l0 x29_2).f0) ((rd_T29 l0 x29_2).f1) ((rd_T29 l0 x29_2).f2) t141 _ A22.out).mono ?_); rintro e w44 ⟨rfl, hb⟩; have n0_ := Aside0.mk (blk_below (g := gb139) (o := .cells #[.string ((rd_T29 l0 x29_2).f0), .string ((rd_T29 l0 x29_2).f1), .int .i64 ((rd_T29 l0 x29_2).f2)] 29 (0, 0)) (zq30) hb); have n1_ := Aside0.mk (below_step (zq29) hb); clear BK139; clear HB; have BK139 := n0_; have HB := n1_; clear n0_ n1_; (try clear hb); (try clear hb2); (try clear hk); (try clear hi); have hcz45_0 : w44.cell? ⟨gb139, 0, none⟩ = some (.string ((rd_T29 l0 x29_2).f0)) := (blk_cell BK139.out 0).trans rfl; have hcz45_1 : w44.cell? ⟨gb139, 1, none⟩ = some (.string ((rd_T29 l0 x29_2).f1)) := (blk_cell BK139.out 1).trans rfl; have hcz45_2 : w44.cell? ⟨gb139, 2, none⟩ = some (.int .i64 ((rd_T29 l0 x29_2).f2)) := (blk_cell BK139.out 2).trans rfl; have hfz45_0 := blk_frozen BK139.out 0; have hfz45_1 := blk_frozen BK139.out 1; have hfz45_2 := blk_frozen BK139.out 2) | (go_at_call 40; (first | (with_reducible refine (strings_Trim.calls (t137.extract ((((rd_T29 l0 x29_2).f1).size : Int) : Int).toNat ((wrap64 (8 - t141)) : Int).toNat) (⟨#[48]⟩ : ByteArray) t142 _ A26.out).mono ?_) | (refine calls_of_args (args' := #[.string (t137.extract ((((rd_T29 l0 x29_2).f1).size : Int) : Int).toNat ((wrap64 (8 - t141)) : Int).toNat), .string (⟨#[48]⟩ : ByteArray)]) (zq31) ?_; (with_reducible refine (strings_Trim.calls (t137.extract ((((rd_T29 l0 x29_2).f1).size : Int) : Int).toNat ((wrap64 (8 - t141)) : Int).toNat) (⟨#[48]⟩ : ByteArray) t142 _ A26.out).mono ?_))); rintro e w46 ⟨rfl, hb⟩; have n0_ := Aside0.mk (blk_below (g := gb139) (o := .cells #[.string ((rd_T29 l0 x29_2).f0), .string ((rd_T29 l0 x29_2).f1), .int .i64 ((rd_T29 l0 x29_2).f2)] 29 (0, 0)) (zq30) hb); have n1_ := Aside0.mk (below_step (zq29) hb); clear BK139; clear HB; have BK139 := n0_; have HB := n1_; clear n0_ n1_; (try clear hb); (try clear hb2); (try clear hk); (try clear hi))); try go_wp2_with (first | ((with_reducible refine gate_dst (N := 10) rfl ?_); refine box_event ?hg (N := 10) ?hd (cs := #[.string (⟨#[]⟩ : ByteArray), .string (⟨#[]⟩ : ByteArray), .int .i64 0]) (t := 29) ?hr ?_; (case hd => rfl); (case hg => rfl); (case hr => exact zq0); intro gb139 hg w40 hbox hb; have n0_ := Aside0.mk (below_step (zq1) hb); have n1_ := Aside0.mk (hbox); have n2_ := Aside0.mk ((zq2 : w.heap.size ≤ gb139)); have n3_ := Aside0.mk ((zq2 : w.heap.size ≤ gb139)); clear HB; have HB := n0_; have BK139 := n1_; have GW139 := n2_; have GE139 := n3_; clear n0_ n1_ n2_ n3_; clear hb hbox hg; have hcz41_0 : w40.cell? ⟨gb139, 0, none⟩ = some (.string (⟨#[]⟩ : ByteArray)) := (blk_cell BK139.out 0).trans rfl; have hcz41_1 : w40.cell? ⟨gb139, 1, none⟩ = some (.string (⟨#[]⟩ : ByteArray)) := (blk_cell BK139.out 1).trans rfl; have hcz41_2 : w40.cell? ⟨gb139, 2, none⟩ = some (.int .i64 0) := (blk_cell BK139.out 2).trans rfl; have hfz41_0 := blk_frozen BK139.out 0; have hfz41_1 := blk_frozen BK139.out 1; have hfz41_2 := blk_frozen BK139.out 2) | (go_at_call 38; (with_reducible refine (strings_HasPrefix.calls t137 ((rd_T29 l0 x29_2).f1) true _ A19.out).mono ?_); rintro e w42 ⟨rfl, hb⟩; have n0_ := Aside0.mk (blk_below (g := gb139) (o := .cells #[.string ((rd_T29 l0 x29_2).f0), .string ((rd_T29 l0 x29_2).f1), .int .i64 ((rd_T29 l0 x29_2).f2)] 29 (0, 0)) (zq28) hb); have n1_ := Aside0.mk (below_step (zq29) hb); clear BK139; clear HB; have BK139 := n0_; have HB := n1_; clear n0_ n1_; (try clear hb); (try clear hb2); (try clear hk); (try clear hi); have hcz43_0 : w42.cell? ⟨gb139, 0, none⟩ = some (.string ((rd_T29 l0 x29_2).f0)) := (blk_cell BK139.out 0).trans rfl; have hcz43_1 : w42.cell? ⟨gb139, 1, none⟩ = some (.string ((rd_T29 l0 x29_2).f1)) := (blk_cell BK139.out 1).trans rfl; have hcz43_2 : w42.cell? ⟨gb139, 2, none⟩ = some (.int .i64 ((rd_T29 l0 x29_2).f2)) := (blk_cell BK139.out 2).trans rfl; have hfz43_0 := blk_frozen BK139.out 0; have hfz43_1 := blk_frozen BK139.out 1; have hfz43_2 := blk_frozen BK139.out 2) | (go_at_call 39; (with_reducible refine (plan_room.calls ((rd_T29 l0 x29_2).f0) ((rd_T29 l0 x29_2).f1) ((rd_T29 l0 x29_2).f2) t141 _ A22.out).mono ?_); rintro e w44 ⟨rfl, hb⟩; have n0_ := Aside0.mk (blk_below (g := gb139) (o := .cells #[.string ((rd_T29 l0 x29_2).f0), .string ((rd_T29 l0 x29_2).f1), .int .i64 ((rd_T29 l0 x29_2).f2)] 29 (0, 0)) (zq30) hb); have n1_ := Aside0.mk (below_step (zq29) hb); clear BK139; clear HB; have BK139 := n0_; have HB := n1_; clear n0_ n1_; (try clear hb); (try clear hb2); (try clear hk); (try clear hi); have hcz45_0 : w44.cell? ⟨gb139, 0, none⟩ = some (.string ((rd_T29 l0 x29_2).f0)) := (blk_cell BK139.out 0).trans rfl; have hcz45_1 : w44.cell? ⟨gb139, 1, none⟩ = some (.string ((rd_T29 l0 x29_2).f1)) := (blk_cell BK139.out 1).trans rfl; have hcz45_2 : w44.cell? ⟨gb139, 2, none⟩ = some (.int .i64 ((rd_T29 l0 x29_2).f2)) := (blk_cell BK139.out 2).trans rfl; have hfz45_0 := blk_frozen BK139.out 0; have hfz45_1 := blk_frozen BK139.out 1; have hfz45_2 := blk_frozen BK139.out 2) | (go_at_call 40; (first | (with_reducible refine (strings_Trim.calls (t137.extract ((((rd_T29 l0 x29_2).f1).size : Int) : Int).toNat ((wrap64 (8 - t141)) : Int).toNat) (⟨#[48]⟩ : ByteArray) t142 _ A26.out).mono ?_) | (refine calls_of_args (args' := #[.string (t137.extract ((((rd_T29 l0 x29_2).f1).size : Int) : Int).toNat ((wrap64 (8 - t141)) : Int).toNat), .string (⟨#[48]⟩ : ByteArray)]) (zq31) ?_; (with_reducible refine (strings_Trim.calls (t137.extract ((((rd_T29 l0 x29_2).f1).size : Int) : Int).toNat ((wrap64 (8 - t141)) : Int).toNat) (⟨#[48]⟩ : ByteArray) t142 _ A26.out).mono ?_))); rintro e w46 ⟨rfl, hb⟩; have n0_ := Aside0.mk (blk_below (g := gb139) (o := .cells #[.string ((rd_T29 l0 x29_2).f0), .string ((rd_T29 l0 x29_2).f1), .int .i64 ((rd_T29 l0 x29_2).f2)] 29 (0, 0)) (zq30) hb); have n1_ := Aside0.mk (below_step (zq29) hb); clear BK139; clear HB; have BK139 := n0_; have HB := n1_; clear n0_ n1_; (try clear hb); (try clear hb2); (try clear hk); (try clear hi))))
               go_ret2
               exact ⟨by first | rfl | (simp [errW_none, errW_some] <;> rfl) | (simp [*, errW_none, errW_some] <;> rfl), by repeat (first | (with_reducible first | exact HB.out | apply below_alloc | apply pw_below_drewN | apply below_drew1 | refine below_set ?_ GE139.out) | exact HB.out)⟩
             ·rw [if_neg c25] at H
              exact absurd H (by simp)
            ·rw [if_neg c24] at H
             exact absurd H (by simp)
           ·rw [if_neg c23] at H
            exact absurd H (by simp)
          ·rw [if_neg c21] at H
           have c21b0 : (a2 == 1) = false := beq_eq_false_iff_ne.mpr c21
           have c21b1 : (a2 != 1) = true := bne_iff_ne.mpr c21
           simp only [Option.some.injEq, Prod.mk.injEq] at H
           obtain ⟨rfl, rfl⟩ := H
           have p138 : 0 ≤ (x29_2 : Int) := of_decide_eq_true (zq14)
           have q138 : x29_2 < (l0.length : Int) := of_decide_eq_true (zq14)
           obtain ⟨ad138, e138, hx138_0, hx138_1, hx138_2⟩ := at_T29 HR0.out x29_2 p138 q138
           cases e138
           replace hx138_0 := (HB.out.cell (World.block_lt_of_cell? w _ hx138_0)).trans hx138_0
           replace hx138_1 := (HB.out.cell (World.block_lt_of_cell? w _ hx138_1)).trans hx138_1
           replace hx138_2 := (HB.out.cell (World.block_lt_of_cell? w _ hx138_2)).trans hx138_2
           replace p138 := eq_true p138
           replace q138 := eq_true q138
           go_wp2_with (first | ((with_reducible refine gate_dst (N := 10) rfl ?_); refine box_event ?hg (N := 10) ?hd (cs := #[.string (⟨#[]⟩ : ByteArray), .string (⟨#[]⟩ : ByteArray), .int .i64 0]) (t := 29) ?hr ?_; (case hd => rfl); (case hg => rfl); (case hr => exact zq0); intro gb139 hg w47 hbox hb; have n0_ := Aside0.mk (below_step (zq1) hb); have n1_ := Aside0.mk (hbox); have n2_ := Aside0.mk ((zq2 : w.heap.size ≤ gb139)); have n3_ := Aside0.mk ((zq2 : w.heap.size ≤ gb139)); clear HB; have HB := n0_; have BK139 := n1_; have GW139 := n2_; have GE139 := n3_; clear n0_ n1_ n2_ n3_; clear hb hbox hg; have hcz48_0 : w47.cell? ⟨gb139, 0, none⟩ = some (.string (⟨#[]⟩ : ByteArray)) := (blk_cell BK139.out 0).trans rfl; have hcz48_1 : w47.cell? ⟨gb139, 1, none⟩ = some (.string (⟨#[]⟩ : ByteArray)) := (blk_cell BK139.out 1).trans rfl; have hcz48_2 : w47.cell? ⟨gb139, 2, none⟩ = some (.int .i64 0) := (blk_cell BK139.out 2).trans rfl; have hfz48_0 := blk_frozen BK139.out 0; have hfz48_1 := blk_frozen BK139.out 1; have hfz48_2 := blk_frozen BK139.out 2) | (go_at_call 38; (with_reducible refine (strings_HasPrefix.calls t137 ((rd_T29 l0 x29_2).f1) true _ A19.out).mono ?_); rintro e w49 ⟨rfl, hb⟩; have n0_ := Aside0.mk (blk_below (g := gb139) (o := .cells #[.string ((rd_T29 l0 x29_2).f0), .string ((rd_T29 l0 x29_2).f1), .int .i64 ((rd_T29 l0 x29_2).f2)] 29 (0, 0)) (zq28) hb); have n1_ := Aside0.mk (below_step (zq29) hb); clear BK139; clear HB; have BK139 := n0_; have HB := n1_; clear n0_ n1_; (try clear hb); (try clear hb2); (try clear hk); (try clear hi)))
           repeat (go_quiet (first | ((with_reducible refine gate_dst (N := 10) rfl ?_); refine box_event ?hg (N := 10) ?hd (cs := #[.string (⟨#[]⟩ : ByteArray), .string (⟨#[]⟩ : ByteArray), .int .i64 0]) (t := 29) ?hr ?_; (case hd => rfl); (case hg => rfl); (case hr => exact zq0); intro gb139 hg w47 hbox hb; have n0_ := Aside0.mk (below_step (zq1) hb); have n1_ := Aside0.mk (hbox); have n2_ := Aside0.mk ((zq2 : w.heap.size ≤ gb139)); have n3_ := Aside0.mk ((zq2 : w.heap.size ≤ gb139)); clear HB; have HB := n0_; have BK139 := n1_; have GW139 := n2_; have GE139 := n3_; clear n0_ n1_ n2_ n3_; clear hb hbox hg; have hcz48_0 : w47.cell? ⟨gb139, 0, none⟩ = some (.string (⟨#[]⟩ : ByteArray)) := (blk_cell BK139.out 0).trans rfl; have hcz48_1 : w47.cell? ⟨gb139, 1, none⟩ = some (.string (⟨#[]⟩ : ByteArray)) := (blk_cell BK139.out 1).trans rfl; have hcz48_2 : w47.cell? ⟨gb139, 2, none⟩ = some (.int .i64 0) := (blk_cell BK139.out 2).trans rfl; have hfz48_0 := blk_frozen BK139.out 0; have hfz48_1 := blk_frozen BK139.out 1; have hfz48_2 := blk_frozen BK139.out 2) | (go_at_call 38; (with_reducible refine (strings_HasPrefix.calls t137 ((rd_T29 l0 x29_2).f1) true _ A19.out).mono ?_); rintro e w49 ⟨rfl, hb⟩; have n0_ := Aside0.mk (blk_below (g := gb139) (o := .cells #[.string ((rd_T29 l0 x29_2).f0), .string ((rd_T29 l0 x29_2).f1), .int .i64 ((rd_T29 l0 x29_2).f2)] 29 (0, 0)) (zq28) hb); have n1_ := Aside0.mk (below_step (zq29) hb); clear BK139; clear HB; have BK139 := n0_; have HB := n1_; clear n0_ n1_; (try clear hb); (try clear hb2); (try clear hk); (try clear hi))); try go_wp2_with (first | ((with_reducible refine gate_dst (N := 10) rfl ?_); refine box_event ?hg (N := 10) ?hd (cs := #[.string (⟨#[]⟩ : ByteArray), .string (⟨#[]⟩ : ByteArray), .int .i64 0]) (t := 29) ?hr ?_; (case hd => rfl); (case hg => rfl); (case hr => exact zq0); intro gb139 hg w47 hbox hb; have n0_ := Aside0.mk (below_step (zq1) hb); have n1_ := Aside0.mk (hbox); have n2_ := Aside0.mk ((zq2 : w.heap.size ≤ gb139)); have n3_ := Aside0.mk ((zq2 : w.heap.size ≤ gb139)); clear HB; have HB := n0_; have BK139 := n1_; have GW139 := n2_; have GE139 := n3_; clear n0_ n1_ n2_ n3_; clear hb hbox hg; have hcz48_0 : w47.cell? ⟨gb139, 0, none⟩ = some (.string (⟨#[]⟩ : ByteArray)) := (blk_cell BK139.out 0).trans rfl; have hcz48_1 : w47.cell? ⟨gb139, 1, none⟩ = some (.string (⟨#[]⟩ : ByteArray)) := (blk_cell BK139.out 1).trans rfl; have hcz48_2 : w47.cell? ⟨gb139, 2, none⟩ = some (.int .i64 0) := (blk_cell BK139.out 2).trans rfl; have hfz48_0 := blk_frozen BK139.out 0; have hfz48_1 := blk_frozen BK139.out 1; have hfz48_2 := blk_frozen BK139.out 2) | (go_at_call 38; (with_reducible refine (strings_HasPrefix.calls t137 ((rd_T29 l0 x29_2).f1) true _ A19.out).mono ?_); rintro e w49 ⟨rfl, hb⟩; have n0_ := Aside0.mk (blk_below (g := gb139) (o := .cells #[.string ((rd_T29 l0 x29_2).f0), .string ((rd_T29 l0 x29_2).f1), .int .i64 ((rd_T29 l0 x29_2).f2)] 29 (0, 0)) (zq28) hb); have n1_ := Aside0.mk (below_step (zq29) hb); clear BK139; clear HB; have BK139 := n0_; have HB := n1_; clear n0_ n1_; (try clear hb); (try clear hb2); (try clear hk); (try clear hi))))
           go_ret2
           exact ⟨by first | rfl | (simp [errW_none, errW_some] <;> rfl) | (simp [*, errW_none, errW_some] <;> rfl), by repeat (first | (with_reducible first | exact HB.out | apply below_alloc | apply pw_below_drewN | apply below_drew1 | refine below_set ?_ GE139.out) | exact HB.out)⟩
         ·replace c20 := Bool.eq_false_iff.mpr c20
          subst c20
          have H1 : (plan_Write.l0 k2 a2 t137 l0 (l0.length : Int) (wrap64 (x29_2 + 1))) = some (r1, r2) := by rw [if_neg (show ¬ (false = true) by decide)] at H; exact H
          clear H
          have H := H1
          clear H1
          have H' := Aside0.mk H
          clear H
          have p138 : 0 ≤ (x29_2 : Int) := of_decide_eq_true (zq14)
          have q138 : x29_2 < (l0.length : Int) := of_decide_eq_true (zq14)
          obtain ⟨ad138, e138, hx138_0, hx138_1, hx138_2⟩ := at_T29 HR0.out x29_2 p138 q138
          cases e138
          replace hx138_0 := (HB.out.cell (World.block_lt_of_cell? w _ hx138_0)).trans hx138_0
          replace hx138_1 := (HB.out.cell (World.block_lt_of_cell? w _ hx138_1)).trans hx138_1
          replace hx138_2 := (HB.out.cell (World.block_lt_of_cell? w _ hx138_2)).trans hx138_2
          replace p138 := eq_true p138
          replace q138 := eq_true q138
          go_wp2_with (first | ((with_reducible refine gate_dst (N := 10) rfl ?_); refine box_event ?hg (N := 10) ?hd (cs := #[.string (⟨#[]⟩ : ByteArray), .string (⟨#[]⟩ : ByteArray), .int .i64 0]) (t := 29) ?hr ?_; (case hd => rfl); (case hg => rfl); (case hr => exact zq0); intro gb139 hg w50 hbox hb; have n0_ := Aside0.mk (below_step (zq1) hb); have n1_ := Aside0.mk (hbox); have n2_ := Aside0.mk ((zq2 : w.heap.size ≤ gb139)); have n3_ := Aside0.mk ((zq2 : w.heap.size ≤ gb139)); clear HB; have HB := n0_; have BK139 := n1_; have GW139 := n2_; have GE139 := n3_; clear n0_ n1_ n2_ n3_; clear hb hbox hg; have hcz51_0 : w50.cell? ⟨gb139, 0, none⟩ = some (.string (⟨#[]⟩ : ByteArray)) := (blk_cell BK139.out 0).trans rfl; have hcz51_1 : w50.cell? ⟨gb139, 1, none⟩ = some (.string (⟨#[]⟩ : ByteArray)) := (blk_cell BK139.out 1).trans rfl; have hcz51_2 : w50.cell? ⟨gb139, 2, none⟩ = some (.int .i64 0) := (blk_cell BK139.out 2).trans rfl; have hfz51_0 := blk_frozen BK139.out 0; have hfz51_1 := blk_frozen BK139.out 1; have hfz51_2 := blk_frozen BK139.out 2) | (go_at_call 38; (with_reducible refine (strings_HasPrefix.calls t137 ((rd_T29 l0 x29_2).f1) false _ A19.out).mono ?_); rintro e w52 ⟨rfl, hb⟩; have n0_ := Aside0.mk (blk_below (g := gb139) (o := .cells #[.string ((rd_T29 l0 x29_2).f0), .string ((rd_T29 l0 x29_2).f1), .int .i64 ((rd_T29 l0 x29_2).f2)] 29 (0, 0)) (zq28) hb); have n1_ := Aside0.mk (below_step (zq29) hb); clear BK139; clear HB; have BK139 := n0_; have HB := n1_; clear n0_ n1_; (try clear hb); (try clear hb2); (try clear hk); (try clear hi)))
          repeat (go_quiet (first | ((with_reducible refine gate_dst (N := 10) rfl ?_); refine box_event ?hg (N := 10) ?hd (cs := #[.string (⟨#[]⟩ : ByteArray), .string (⟨#[]⟩ : ByteArray), .int .i64 0]) (t := 29) ?hr ?_; (case hd => rfl); (case hg => rfl); (case hr => exact zq0); intro gb139 hg w50 hbox hb; have n0_ := Aside0.mk (below_step (zq1) hb); have n1_ := Aside0.mk (hbox); have n2_ := Aside0.mk ((zq2 : w.heap.size ≤ gb139)); have n3_ := Aside0.mk ((zq2 : w.heap.size ≤ gb139)); clear HB; have HB := n0_; have BK139 := n1_; have GW139 := n2_; have GE139 := n3_; clear n0_ n1_ n2_ n3_; clear hb hbox hg; have hcz51_0 : w50.cell? ⟨gb139, 0, none⟩ = some (.string (⟨#[]⟩ : ByteArray)) := (blk_cell BK139.out 0).trans rfl; have hcz51_1 : w50.cell? ⟨gb139, 1, none⟩ = some (.string (⟨#[]⟩ : ByteArray)) := (blk_cell BK139.out 1).trans rfl; have hcz51_2 : w50.cell? ⟨gb139, 2, none⟩ = some (.int .i64 0) := (blk_cell BK139.out 2).trans rfl; have hfz51_0 := blk_frozen BK139.out 0; have hfz51_1 := blk_frozen BK139.out 1; have hfz51_2 := blk_frozen BK139.out 2) | (go_at_call 38; (with_reducible refine (strings_HasPrefix.calls t137 ((rd_T29 l0 x29_2).f1) false _ A19.out).mono ?_); rintro e w52 ⟨rfl, hb⟩; have n0_ := Aside0.mk (blk_below (g := gb139) (o := .cells #[.string ((rd_T29 l0 x29_2).f0), .string ((rd_T29 l0 x29_2).f1), .int .i64 ((rd_T29 l0 x29_2).f2)] 29 (0, 0)) (zq28) hb); have n1_ := Aside0.mk (below_step (zq29) hb); clear BK139; clear HB; have BK139 := n0_; have HB := n1_; clear n0_ n1_; (try clear hb); (try clear hb2); (try clear hk); (try clear hi))); try go_wp2_with (first | ((with_reducible refine gate_dst (N := 10) rfl ?_); refine box_event ?hg (N := 10) ?hd (cs := #[.string (⟨#[]⟩ : ByteArray), .string (⟨#[]⟩ : ByteArray), .int .i64 0]) (t := 29) ?hr ?_; (case hd => rfl); (case hg => rfl); (case hr => exact zq0); intro gb139 hg w50 hbox hb; have n0_ := Aside0.mk (below_step (zq1) hb); have n1_ := Aside0.mk (hbox); have n2_ := Aside0.mk ((zq2 : w.heap.size ≤ gb139)); have n3_ := Aside0.mk ((zq2 : w.heap.size ≤ gb139)); clear HB; have HB := n0_; have BK139 := n1_; have GW139 := n2_; have GE139 := n3_; clear n0_ n1_ n2_ n3_; clear hb hbox hg; have hcz51_0 : w50.cell? ⟨gb139, 0, none⟩ = some (.string (⟨#[]⟩ : ByteArray)) := (blk_cell BK139.out 0).trans rfl; have hcz51_1 : w50.cell? ⟨gb139, 1, none⟩ = some (.string (⟨#[]⟩ : ByteArray)) := (blk_cell BK139.out 1).trans rfl; have hcz51_2 : w50.cell? ⟨gb139, 2, none⟩ = some (.int .i64 0) := (blk_cell BK139.out 2).trans rfl; have hfz51_0 := blk_frozen BK139.out 0; have hfz51_1 := blk_frozen BK139.out 1; have hfz51_2 := blk_frozen BK139.out 2) | (go_at_call 38; (with_reducible refine (strings_HasPrefix.calls t137 ((rd_T29 l0 x29_2).f1) false _ A19.out).mono ?_); rintro e w52 ⟨rfl, hb⟩; have n0_ := Aside0.mk (blk_below (g := gb139) (o := .cells #[.string ((rd_T29 l0 x29_2).f0), .string ((rd_T29 l0 x29_2).f1), .int .i64 ((rd_T29 l0 x29_2).f2)] 29 (0, 0)) (zq28) hb); have n1_ := Aside0.mk (below_step (zq29) hb); clear BK139; clear HB; have BK139 := n0_; have HB := n1_; clear n0_ n1_; (try clear hb); (try clear hb2); (try clear hk); (try clear hi))))
          go_roundg k2
          case measure => have := HJ3.out; have := HK2.out; omega
          case rel => exact ⟨(wrap64 (x29_2 + 1)), (zq6), H', ⟨by have := HJ3.out; have := HK2.out; omega⟩, ⟨by repeat (first | (with_reducible first | exact HB.out | apply below_alloc | apply pw_below_drewN | apply below_drew1 | refine below_set ?_ GE139.out) | exact HB.out)⟩⟩
        ·rw [if_neg c18] at H
         exact absurd H (by simp)
       ·rw [if_neg c17] at H
        exact absurd H (by simp)
      ·rw [if_neg c16] at H
       have c16b0 : decide (x29_2 < (l0.length : Int)) = false := decide_eq_false c16
       clear c16
       simp only [Option.some.injEq, Prod.mk.injEq] at H
       obtain ⟨rfl, rfl⟩ := H
       go_wp2
       repeat (go_quiet (fail); try go_wp2)
       go_ret2
       exact ⟨by first | rfl | (simp [errW_none, errW_some] <;> rfl) | (simp [*, errW_none, errW_some] <;> rfl), by repeat (first | (with_reducible first | exact HB.out | apply below_alloc | apply pw_below_drewN | apply below_drew1) | exact HB.out)⟩
end Go.Proofs.YtlmfoblgheepoaaGreatDoor.Pl
end
section
open Go.Proofs.YtlmfoblgheepoaaGreatDoor.Z
namespace Go.Proofs.YtlmfoblgheepoaaGreatDoor.Pl
open Go.RowKit Go.Proofs.YtlmfoblgheepoaaGreatDoorW.PrintWords Go.Proofs.YtlmfoblgheepoaaGreatDoorW.PrintLast Go.Proofs.YtlmfoblgheepoaaGreatDoorW.PrintMore
attribute [local go_sem] max2_int min2_int max_two min_two max_three min_three max_four min_four
set_option linter.unusedVariables false
set_option linter.unusedSimpArgs false
def strconv_Atoi.f (s : ByteArray) : Option (Int × Option Int) :=
 if s.size ≤ 18 then (Lib.atoi s.data.toList).map fun n => (n, none) else none
theorem strconv_Atoi.calls (s : ByteArray) (r1 : Int) (r2 : Option Int) (w : World) (h : strconv_Atoi.f s = some (r1, r2)) :
 Calls Tryz.prog 45 #[.string s] w fun e w' => e = .returned (.tuple #[.int .i64 r1, errW r2]) ∧ Below w.heap.size w w' := by
 unfold strconv_Atoi.f at h
 split at h
 ·rename_i hc
  cases ha : Lib.atoi s.data.toList with
  | none => rw [ha] at h; cases h
  | some n =>
   rw [ha] at h
   obtain ⟨h1, h2⟩ := Prod.mk.inj (Option.some.inj h)
   subst h1 h2
   exact (Tryz.strconv_Atoi s n hc ha w).mono fun e w' ⟨he, t, hw⟩ => ⟨he, by rw [hw]; exact below_bytesW w _ _⟩
 ·cases h
end Go.Proofs.YtlmfoblgheepoaaGreatDoor.Pl
end
section
open Go.Proofs.YtlmfoblgheepoaaGreatDoor.Z
namespace Go.Proofs.YtlmfoblgheepoaaGreatDoor.Pl
open Go.RowKit Go.Proofs.YtlmfoblgheepoaaGreatDoorW.PrintWords Go.Proofs.YtlmfoblgheepoaaGreatDoorW.PrintLast Go.Proofs.YtlmfoblgheepoaaGreatDoorW.PrintMore
attribute [local go_sem] max2_int min2_int max_two min_two max_three min_three max_four min_four
set_option linter.unusedVariables false
set_option linter.unusedSimpArgs false
open Go.Proofs.GMap Go.Maps
open Go.WideMaps (keyOf_string_mk)
abbrev Ent := Int × Int × ByteArray
def encE (e : Ent) : Value := .agg #[.int .i64 e.1, .int .i64 e.2.1, .string e.2.2]
def lookE (L : List (ByteArray × Ent)) (s : ByteArray) : Option Ent := (L.find? (fun p => decide (p.1 = s))).map (·.2)
def MapE (w : World) (b n : Nat) (L : List (ByteArray × Ent)) : Prop :=
 ∃ F, MapV Tryz.prog 9 w b n F ∧ ∀ s, F (.string s) = (lookE L s).map encE
theorem MapE.put {L : List (ByteArray × Ent)} {F : Value → Option Value} (hF : ∀ s, F (.string s) = (lookE L s).map encE) (k : ByteArray) (e : Ent) :
 ∀ s, upd F (.string k) (encE e) (.string s) = (lookE ((k, e) :: L) s).map encE := by
 intro s
 by_cases h : s = k
 ·subst h; rw [upd_same]; simp [lookE, List.find?_cons]
 ·rw [upd_other _ _ (by simpa using h), hF]
  have : ¬ k = s := fun e => h e.symm
  simp [lookE, this]
theorem MapE.below {w w' : World} {b n : Nat} {L : List (ByteArray × Ent)} (h : MapE w b n L) (hb : Below w.heap.size w w') : MapE w' b n L := let ⟨F, h, s⟩ := h; ⟨F, h.below hb, s⟩
theorem MapE.drew {w : World} {b n : Nat} {L : List (ByteArray × Ent)} (h : MapE w b n L) : MapE w.drew b n L := let ⟨F, h, s⟩ := h; ⟨F, h.drew, s⟩
theorem keyed9 : Keyed Tryz.prog 9 := string_keyed Tryz.underlying9
def entStep (ph : Int) (c : S29) (i : Int) (L : List (ByteArray × Ent)) : Option (List (ByteArray × Ent)) :=
 if c.f0.size ≤ 1000 ∧ c.f1.size ≤ 1000 then
  (if ph ≠ 3 then (plan_room.f c.f0 c.f1 c.f2).bind fun r => (strings_Repeat.f ⟨#[48]⟩ (wrap64 (wrap64 (8 - (c.f1.size : Int)) - r))).bind fun z => (if c.f1.size + z.size ≤ 9223372036854775807 then some ((c.f0, (i, c.f2, c.f1 ++ z)) :: L) else none) else some L).bind fun L1 =>
   some (if ph ≠ 1 then (c.f1, (i, 8, c.f1)) :: L1 else L1)
 else none
def entGo (ph : Int) : List S29 → Nat → List (ByteArray × Ent) → Option (List (ByteArray × Ent))
 | [], _, L => some L
 | c :: cs, i, L => (entStep ph c i L).bind fun L1 => entGo ph cs (i + 1) L1
set_option maxHeartbeats 400000 in
set_option maxRecDepth 100000 in
theorem plan_entries.calls (A0 : Option Addr) (c0 : Nat) (l0 : List S29) (a1 : Int) (L : List (ByteArray × Ent)) (w : World) (hr0 : Kd.C k29 w A0 l0.length l0) (hl0 : l0.length ≤ 1000) (h : entGo a1 l0 0 [] = some L) :
 Calls Tryz.prog 50 #[.slice A0 l0.length c0, .int .i64 a1] w fun e w' => ∃ b n, e = .returned (.map (some b)) ∧ MapE w' b n L ∧ Below w.heap.size w w' := by
 have HB := Aside0.mk (Below.refl w.heap.size w)
 have HL := Aside0.mk h
 have HR := Aside0.mk hr0
 clear h hr0
 have hmm := @run_makeMap Tryz.prog
 go_enter Tryz.func50, Tryz.ntmps50
 go_wp2
 have hm0 : MapV Tryz.prog 9 (w.alloc (.map #[] 0)) w.heap.size 0 (fun _ => none) := MapV.made _ _ _
 have HM := Aside0.mk (show ∃ F, MapV Tryz.prog 9 (w.alloc (.map #[] 0)) w.heap.size (2 * 0) F ∧ ∀ s, F (.string s) = (lookE [] s).map encE from ⟨_, hm0, fun s => rfl⟩)
 clear hm0
 go_loopw [11] (fun v wr => ∃ i : Nat, i ≤ l0.length ∧ v = .int .i64 i ∧ ∃ L1, Aside0 (MapE wr w.heap.size (2 * i) L1) ∧ Aside0 (entGo a1 (l0.drop i) i L1 = some L) ∧ Aside0 (Below w.heap.size w wr) ∧ Aside0 (w.heap.size < wr.heap.size)) (fun v _ => l0.length - (intOf v).toNat)
 case atStart => exact ⟨0, Nat.zero_le _, rfl, [], ⟨HM.out⟩, ⟨HL.out⟩, ⟨by exact (Below.refl _ _).alloc (Nat.le_refl _) _⟩, ⟨by simp⟩⟩
 case round =>
  clear HM HL HB
  obtain ⟨i, hi, rfl, L1, HM, HG, HB, HS⟩ := hrel
  by_cases hlt : i < l0.length
  ·obtain ⟨ad, hA, h0, h1, h2⟩ := at_T29 HR.out (i : Int) (by omega) (by omega)
   subst hA
   rw [Int.toNat_natCast] at h0 h1 h2
   replace h0 := pw_cell_below HB.out h0
   replace h1 := pw_cell_below HB.out h1
   replace h2 := pw_cell_below HB.out h2
   have hdrop : l0.drop i = rd_T29 l0 i :: l0.drop (i + 1) := by
    rw [List.drop_eq_getElem_cons hlt]; simp [rd_T29, hlt]
   have HG2 := HG.out
   rw [hdrop] at HG2
   simp only [entGo] at HG2
   obtain ⟨L2, hst, hgo⟩ := Option.bind_eq_some_iff.mp HG2
   clear HG HG2
   unfold entStep at hst
   generalize rd_T29 l0 i = c at *
   split at hst
   case isFalse => cases hst
   rename_i hsz
   obtain ⟨L3, hst3, hst4⟩ := Option.bind_eq_some_iff.mp hst
   clear hst
   by_cases h3 : a1 = 3
   ·have h3b : (a1 != 3) = false := by simpa using h3
    have h1b : (a1 != 1) = true := by rw [h3]; rfl
    rw [if_neg (by simpa using h3)] at hst3
    obtain rfl := Option.some.inj hst3
    have hst5 := Option.some.inj hst4
    rw [if_pos (by omega)] at hst5
    have HST5 := Aside0.mk hst5
    have HGO := Aside0.mk hgo
    have HSZ := Aside0.mk hsz
    have hBs := HS.out
    clear hst5 hgo hst3 hst4 h3 hsz hdrop
    obtain ⟨F, hF1, hF2⟩ := HM.out
    have HF2 := Aside0.mk hF2
    clear hF2
    go_wp2_with (first | (at_mapUpdate; refine wpList_update _ rfl _ _ _ 81 rfl 9 84 keyed9 Tryz.underlying81 w.heap.size (2 * i) F rfl (hF1.alloc _) (by unfold maxLen; omega) _ (encE ((i : Int), 8, c.f1)) _ rfl rfl (keyOf_string_mk Tryz.underlying9 (s := c.f1) (by have := HSZ.out.2; unfold maxLen; omega)) ?_; intro w5 hm5 hg5))
    go_roundw
    case rel =>
     have hg5s := hg5.size
     exact ⟨i + 1, by omega, by go_num, L2, ⟨⟨_, hm5.mono (by omega), by rw [← HST5.out]; exact MapE.put HF2.out _ _⟩⟩, HGO, ⟨(HB.out.alloc (by omega) _).grown hg5 (by simp; omega) (fun k e => by cases e; exact Nat.le_refl _)⟩, ⟨by simp at hg5s; omega⟩⟩
    case measure => simp [intOf]; omega
   ·rw [if_pos h3] at hst3
    obtain ⟨r, hr, hst3⟩ := Option.bind_eq_some_iff.mp hst3
    obtain ⟨z, hz, hst3⟩ := Option.bind_eq_some_iff.mp hst3
    by_cases hcat : c.f1.size + z.size ≤ 9223372036854775807
    case neg => rw [if_neg hcat] at hst3; cases hst3
    rw [if_pos hcat] at hst3
    have hcat2 : (9223372036854775807 < c.f1.size + z.size) = False := eq_false (Nat.not_lt.2 hcat)
    have HST3 := Aside0.mk (Option.some.inj hst3)
    have HST4 := Aside0.mk (Option.some.inj hst4)
    have HGO := Aside0.mk hgo
    have Hr := Aside0.mk hr
    have Hz := Aside0.mk hz
    have HSZ := Aside0.mk hsz
    clear hst3 hst4 hgo hr hz hsz hdrop
    have h3b : (a1 != 3) = true := by simpa using h3
    clear h3
    have HW := Aside0.mk (show ∃ W, W = wr.alloc (.cells #[.string c.f0, .string c.f1, .int .i64 c.f2] 29) from ⟨_, rfl⟩)
    go_upto_region 6 with (fail)
    obtain ⟨W, hW⟩ := HW.out
    clear HW
    have k0 : W.cell? ⟨wr.heap.size, 0, none⟩ = some (.string c.f0) := by rw [hW]; go_simp
    have k1 : W.cell? ⟨wr.heap.size, 1, none⟩ = some (.string c.f1) := by rw [hW]; go_simp
    have k2 : W.cell? ⟨wr.heap.size, 2, none⟩ = some (.int .i64 c.f2) := by rw [hW]; go_simp
    have hBW : Below wr.heap.size wr W := by rw [hW]; exact (Below.refl _ _).alloc (Nat.le_refl _) _
    have hSW : W.heap.size = wr.heap.size + 1 := by rw [hW]; simp
    rw [← hW]
    clear h0 h1 h2 hW
    have hBW := Aside0.mk hBW
    have hSW := Aside0.mk hSW
    go_region_held3 (fun w' => w'.cell? ⟨wr.heap.size, 0, none⟩ = some (.string c.f0) ∧ w'.cell? ⟨wr.heap.size, 1, none⟩ = some (.string c.f1) ∧ w'.cell? ⟨wr.heap.size, 2, none⟩ = some (.int .i64 c.f2))
     (first | go_keep | (go_split_ands; refine ⟨?_, ?_, ?_⟩ <;> (apply pw_cell_below hb2.out; assumption)) | (go_split_ands; have hb2s := hb2.out.size; simp at hb2s; have hSs := hSW.out; have hBs := HS.out; refine ⟨?_, ?_, ?_⟩ <;> (rw [hg4.cell_far _ (by simp; omega) (by simp; omega)]; apply pw_cell_below hb2.out; assumption)))
     (first
      | (go_simp; go_at_call 39; refine (plan_room.calls _ _ _ r _ Hr.out).mono ?_; rintro e w2 ⟨rfl, hb2'⟩; have hb2 := Aside0.mk hb2'; clear hb2')
      | (go_simp; go_at_call 61; rw [i64_w, i64_w]; refine (strings_Repeat.calls _ _ z _ Hz.out).mono ?_; rintro e w3 ⟨rfl, hb3'⟩; have hb2 := Aside0.mk (below_then hb2.out hb2.out.size hb3'); clear hb3')
      | (go_simp; obtain ⟨F, hF1, hF2⟩ := ((HM.out.below hBW.out).drew).below hb2.out; obtain ⟨w4, hrun, hm4, hg4⟩ := MapV.update hF1 keyed9 Tryz.underlying81 (by unfold maxLen; omega) (encE ((i : Int), c.f2, c.f1 ++ z)) (keyOf_string_mk Tryz.underlying9 (s := c.f0) (by have := HSZ.out.1; unfold maxLen; omega)); have hrun2 := hrun; unfold encE at hrun2; rw [hrun2]; simp only [Result.andThen, Oper.upon_skip, Act.put]))
    have M4 := Aside0.mk (show MapE w4 w.heap.size (2 * i + 1) L3 from by rw [← HST3.out]; exact ⟨_, hm4, MapE.put hF2 _ _⟩)
    have hb2s := hb2.out.size
    simp at hb2s
    have hSs := hSW.out
    have hBs := HS.out
    have hg4s := hg4.size
    have q1 : w4.cell? ⟨wr.heap.size, 1, none⟩ = some (.string c.f1) := by
     rw [hg4.cell_far _ (by simp; omega) (by simp; omega)]; exact pw_cell_below hb2.out k1
    have B4 := Aside0.mk (show Below w.heap.size w w4 from (((HB.out.trans (hBW.out.mono (by omega))).drew).trans (hb2.out.mono (by simp; omega))).grown hg4 (by omega) (fun k e => by cases e; exact Nat.le_refl _))
    have S4 := Aside0.mk (show w.heap.size < w4.heap.size by omega)
    clear hm4 hF1 hF2 hrun hrun2 hb2 hb2s hg4s hg4 k0 k1 k2 hBW hSW HST3 Hr Hz hSs hBs hcat hcat2 HM HB hst3
    by_cases h1 : a1 = 1
    ·have h1b : (a1 != 1) = false := by simpa using h1
     have HST5 := Aside0.mk (show L3 = L2 from by have := HST4.out; rw [if_neg (by simpa using h1)] at this; exact this)
     clear h1 HST4
     go_wp2
     go_roundw
     case rel => exact ⟨i + 1, by omega, by go_num, L2, ⟨by obtain ⟨F, h, s⟩ := M4.out; exact ⟨F, h.mono (by omega), by rw [← HST5.out]; exact s⟩⟩, HGO, B4, S4⟩
     case measure => simp [intOf]; omega
    ·have h1b : (a1 != 1) = true := by simpa using h1
     have HST5 := Aside0.mk (show (c.f1, ((i : Int), 8, c.f1)) :: L3 = L2 from by have := HST4.out; rw [if_pos (by simpa using h1)] at this; exact this)
     clear h1 HST4
     obtain ⟨F, hF1, hF2⟩ := M4.out
     have HF2 := Aside0.mk hF2
     clear hF2
     go_wp2_with (first | (at_mapUpdate; refine wpList_update _ rfl _ _ _ 81 rfl 9 84 keyed9 Tryz.underlying81 w.heap.size (2 * i + 1) F rfl hF1 (by unfold maxLen; omega) _ (encE ((i : Int), 8, c.f1)) _ rfl rfl (keyOf_string_mk Tryz.underlying9 (s := c.f1) (by have := HSZ.out.2; unfold maxLen; omega)) ?_; intro w5 hm5 hg5))
     go_roundw
     case rel =>
      have hg5s := hg5.size
      have S4s := S4.out
      exact ⟨i + 1, by omega, by go_num, L2, ⟨⟨_, hm5.mono (by omega), by rw [← HST5.out]; exact MapE.put HF2.out _ _⟩⟩, HGO, ⟨B4.out.grown hg5 (by omega) (fun k e => by cases e; exact Nat.le_refl _)⟩, ⟨by omega⟩⟩
     case measure => simp [intOf]; omega
  ·obtain rfl : i = l0.length := by omega
   have hL : L1 = L := by have := HG.out; rw [List.drop_length] at this; exact Option.some.inj this
   have M1 := Aside0.mk (show MapE wr w.heap.size (2 * l0.length) L from by rw [← hL]; exact HM.out)
   clear hL HM HG
   go_wp2
   go_ret
   exact ⟨_, _, rfl, M1.out, HB.out⟩
def readLoop (L : List (ByteArray × Ent)) (d : ByteArray) : Nat → Nat → Option (Option (Int × Int × Int × Int))
 | 0, _ => some none
 | m + 1, k => match lookE L (d.extract 0 k) with
  | none => readLoop L d m (k + 1)
  | some x => if (d.size : Int) < x.2.1 then some (some (1, 0, 0, 0)) else
   if (k : Int) ≤ x.2.1 ∧ x.2.1 ≤ (d.size : Int) ∧ x.2.2.size + (d.extract k x.2.1.toNat).size ≤ 9223372036854775807 then
    (strconv_Atoi.f (x.2.2 ++ d.extract k x.2.1.toNat)).bind fun n => some (some (2, n.1, x.1, x.2.1)) else none
def readEnd (L : List (ByteArray × Ent)) (d : ByteArray) : Option (Int × Int × Int × Int) → Int × Int × Int × Int × Int
 | some r => (r.1, r.2.1, r.2.2.1, r.2.2.2, 0)
 | none => if L.any (fun p => Lib.hasPrefix p.1.data.toList d.data.toList) = true then (1, 0, 0, 0, 0) else (0, 0, 0, 0, 0)
def plan_ReadRest (l0 : List S29) (a1 : ByteArray) (a2 : Int) : Option (Int × Int × Int × Int × Int) :=
 if l0.length ≤ 1000 ∧ a1.size ≤ 1000 then
  (entGo a2 l0 0 []).bind fun L => (readLoop L a1 (a1.size + 1) 0).bind fun o => some (readEnd L a1 o)
 else none
def plan_Read.f (k : Nat) (l0 : List S29) (a1 : ByteArray) (a2 : Int) : Option (Int × Int × Int × Int × Int) :=
 (plan_Valid.f k l0).bind fun v => if v = true then (plan_isDigits.f a1).bind fun d => if d = true then
  (if 16 < (a1.size : Int) then some (0, 0, 0, 0, 120) else (plan_isPhase.f a2).bind fun p => if p = true then plan_ReadRest l0 a1 a2 else some (0, 0, 0, 0, 120))
  else some (0, 0, 0, 0, 120) else some (0, 0, 0, 0, 120)
theorem plan_Read.mono : ∀ a0 a1 a2 k, LeO (plan_Read.f k a0 a1 a2) (plan_Read.f (k + 1) a0 a1 a2) := by
 intro a0 a1 a2 k
 unfold plan_Read.f
 refine LeO.bind (plan_Valid.mono _ _) (fun _ => LeO.refl _)
abbrev RB (g : Nat) (w : World) : Prop := w.heap[g]? = some (.cells #[.int .i64 0, .int .i64 0, .int .i64 0, .int .i64 0] 44 (0, 0))
theorem put4 {w : World} {g : Nat} {a b c d a' b' c' d' : Value} {t : TypeId} (h : w.heap[g]? = some (.cells #[a, b, c, d] t (0, 0))) :
 ((((w.setCell ⟨g, 0, none⟩ a').setCell ⟨g, 1, none⟩ b').setCell ⟨g, 2, none⟩ c').setCell ⟨g, 3, none⟩ d').heap[g]? = some (.cells #[a', b', c', d'] t (0, 0)) :=
 blk_put (blk_put (blk_put (blk_put h 0 _ rfl) 1 _ rfl) 2 _ rfl) 3 _ rfl
theorem below4 {w W : World} {g : Nat} (h : Below w.heap.size w W) (hg : w.heap.size ≤ g) (a' b' c' d' : Value) :
 Below w.heap.size w ((((W.setCell ⟨g, 0, none⟩ a').setCell ⟨g, 1, none⟩ b').setCell ⟨g, 2, none⟩ c').setCell ⟨g, 3, none⟩ d') :=
 (((h.setCell hg _).setCell hg _).setCell hg _).setCell hg _
theorem RB.cells {g : Nat} {w : World} (h : RB g w) : (w.cell? ⟨g, 0, none⟩ = some (.int .i64 0) ∧ w.cell? ⟨g, 1, none⟩ = some (.int .i64 0) ∧ w.cell? ⟨g, 2, none⟩ = some (.int .i64 0) ∧ w.cell? ⟨g, 3, none⟩ = some (.int .i64 0)) ∧
 w.frozen? ⟨g, 0, none⟩ = false ∧ w.frozen? ⟨g, 1, none⟩ = false ∧ w.frozen? ⟨g, 2, none⟩ = false ∧ w.frozen? ⟨g, 3, none⟩ = false :=
 ⟨⟨(blk_cell h 0).trans rfl, (blk_cell h 1).trans rfl, (blk_cell h 2).trans rfl, (blk_cell h 3).trans rfl⟩, blk_frozen h 0, blk_frozen h 1, blk_frozen h 2, blk_frozen h 3⟩
theorem invK9 (key : Value) (kl : Lit) (h : keyOf Tryz.prog 9 key = some kl) : ∃ x : ByteArray, key = .string x := by
 obtain ⟨x, hx, _⟩ := Maps.keyOf_str Tryz.underlying9 h
 exact ⟨⟨x.toArray⟩, hx⟩
theorem anyKey_of {L : List (ByteArray × Ent)} {s d : ByteArray} {e : Ent} (h : lookE L s = some e) (hp : Lib.hasPrefix s.data.toList d.data.toList = true) : L.any (fun p => Lib.hasPrefix p.1.data.toList d.data.toList) = true := by
 unfold lookE at h
 obtain ⟨p, hp1, rfl⟩ := Option.map_eq_some_iff.mp h
 have h1 := List.mem_of_find?_eq_some hp1
 have h2 := List.find?_some hp1
 rw [List.any_eq_true]
 exact ⟨p, h1, by rw [of_decide_eq_true h2]; exact hp⟩
theorem anyKey_none {L : List (ByteArray × Ent)} {d : ByteArray} (h : ∀ s e, lookE L s = some e → Lib.hasPrefix s.data.toList d.data.toList = false) : L.any (fun p => Lib.hasPrefix p.1.data.toList d.data.toList) = false := by
 rw [List.any_eq_false]
 intro p hp
 have : ∃ e, lookE L p.1 = some e := by
  unfold lookE
  cases hf : L.find? (fun q => decide (q.1 = p.1)) with
  | none => exact absurd (List.find?_eq_none.1 hf p hp) (by simp)
  | some q => exact ⟨_, rfl⟩
 obtain ⟨e, he⟩ := this
 rw [h _ _ he]
 simp
theorem entStep_keys {ph : Int} {c : S29} {i : Int} {L L' : List (ByteArray × Ent)} (h : entStep ph c i L = some L') (hL : ∀ p ∈ L, p.1.size ≤ 1000) : ∀ p ∈ L', p.1.size ≤ 1000 := by
 unfold entStep at h
 split at h
 case isFalse => cases h
 rename_i hs
 obtain ⟨L1, h1, h2⟩ := Option.bind_eq_some_iff.mp h
 have k1 : ∀ p ∈ L1, p.1.size ≤ 1000 := by
  split at h1
  ·obtain ⟨r, _, h1⟩ := Option.bind_eq_some_iff.mp h1
   obtain ⟨z, _, h1⟩ := Option.bind_eq_some_iff.mp h1
   split at h1
   ·obtain rfl := Option.some.inj h1
    intro p hp
    rcases List.mem_cons.1 hp with rfl | hp
    ·exact hs.1
    ·exact hL p hp
   ·cases h1
  ·obtain rfl := Option.some.inj h1
   exact hL
 obtain rfl := Option.some.inj h2
 split
 ·intro p hp
  rcases List.mem_cons.1 hp with rfl | hp
  ·exact hs.2
  ·exact k1 p hp
 ·exact k1
theorem entGo_keys {ph : Int} : ∀ {cs : List S29} {i : Nat} {L L' : List (ByteArray × Ent)}, entGo ph cs i L = some L' → (∀ p ∈ L, p.1.size ≤ 1000) → ∀ p ∈ L', p.1.size ≤ 1000
 | [], _, L, L', h, hL => by obtain rfl := Option.some.inj h; exact hL
 | c :: cs, i, L, L', h, hL => by
  obtain ⟨L1, h1, h2⟩ := Option.bind_eq_some_iff.mp h
  exact entGo_keys h2 (entStep_keys h1 hL)
theorem lookE_mem {L : List (ByteArray × Ent)} {s : ByteArray} {e : Ent} (h : lookE L s = some e) : ∃ p ∈ L, p.1 = s := by
 unfold lookE at h
 obtain ⟨p, hp1, rfl⟩ := Option.map_eq_some_iff.mp h
 have h3 := List.find?_some hp1
 exact ⟨p, List.mem_of_find?_eq_some hp1, of_decide_eq_true h3⟩
theorem zero84 (w : World) : (zeroValue 84).run Tryz.prog w = .ok (encE (0, 0, ⟨#[]⟩)) w := by kernel_rfl
theorem MapE.at_ {w : World} {b n : Nat} {L : List (ByteArray × Ent)} (h : MapE w b n L) (s : ByteArray) {o : Option Ent} (ho : lookE L s = o) : ∃ F, MapV Tryz.prog 9 w b n F ∧ F (.string s) = o.map encE := by
 obtain ⟨F, h, hF⟩ := h
 exact ⟨F, h, by rw [hF, ho]⟩
theorem MapE.alloc {w : World} {b n : Nat} {L : List (ByteArray × Ent)} (h : MapE w b n L) (o : Obj) : MapE (w.alloc o) b n L := let ⟨F, h, s⟩ := h; ⟨F, h.alloc o, s⟩
set_option maxHeartbeats 4000000 in
set_option maxRecDepth 100000 in
theorem plan_Read.calls (k : Nat) (A0 : Option Addr) (c0 : Nat) (l0 : List (S29)) (a1 : ByteArray) (a2 : Int) (r1 r2 r3 r4 r5 : Int) (w : World) (hr0 : Kd.C k29 w A0 l0.length l0) (hc0 : l0.length ≤ c0) (h : plan_Read.f k l0 a1 a2 = some (r1, r2, r3, r4, r5)) :
 Calls Tryz.prog 21 #[.slice A0 l0.length c0, .string a1, .int .i64 a2] w fun e w' => e = .returned (.tuple #[.agg #[.int .i64 r1, .int .i64 r2, .int .i64 r3, .int .i64 r4], .int .i64 r5]) ∧ Below w.heap.size w w' := by
 have HR0 := Aside0.mk hr0
 have HC0 := Aside0.mk hc0
 have HC4 := Aside0.mk h
 clear hr0 hc0 h
 have HB := Aside0.mk (Below.refl w.heap.size w)
 go_enter Tryz.func21, Tryz.ntmps21
 go_upto_region 1 with (first | ((with_reducible refine gate_dst (N := 6) rfl ?_); refine box_event ?hg (N := 6) ?hd (cs := #[.int .i64 0, .int .i64 0, .int .i64 0, .int .i64 0]) (t := 44) ?hr ?_; (case hd => rfl); (case hg => rfl); (case hr => exact zq0); intro g hg w5 hbox hb; have BK : Aside0 (RB g w5) := Aside0.mk hbox; have GE := Aside0.mk (show w.heap.size ≤ g by rw [hg]; exact Nat.le_refl _); clear HB; have HB := Aside0.mk hb; clear hbox hb hg))
 (try simp only [Act.put, List.setIfInBounds_toArray, List.set_cons_zero, List.set_cons_succ])
 go_cut [32] (fun v wc => ∃ bad : Bool, v = .bool bad ∧ Aside0 ((if bad = true then some (0, 0, 0, 0, 120) else plan_ReadRest l0 a1 a2) = some (r1, r2, r3, r4, r5)) ∧ Aside0 (RB g wc) ∧ Aside0 (Below w.heap.size w wc))
 case first =>
  have H := HC4.out
  clear HC4
  unfold plan_Read.f at H
  obtain ⟨v, hv, H⟩ := Option.bind_eq_some_iff.mp H
  have A1 := Aside0.mk hv
  clear hv
  cases v with
  | false =>
   have HF := Aside0.mk (show (some ((0 : Int), (0 : Int), (0 : Int), (0 : Int), (120 : Int))) = some (r1, r2, r3, r4, r5) from H)
   clear H
   go_wp2_with (first | (go_at_call 25; refine (plan_Valid.calls k _ _ l0 false _ (Kd.C_below HR0.out HB.out) HC0.out A1.out).mono ?_; rintro e w11 ⟨rfl, hb⟩; have BK2 : Aside0 (RB g w11) := Aside0.mk (blk_below BK.out hb); have HB2 := Aside0.mk (below_step HB.out hb); clear hb))
   go_meet
   case rel => exact ⟨true, by first | rfl | (simp; done), ⟨by rw [if_pos rfl]; exact HF.out⟩, BK2, HB2⟩
  | true =>
   replace H : ((plan_isDigits.f a1).bind fun d => if d = true then (if 16 < (a1.size : Int) then some ((0 : Int), (0 : Int), (0 : Int), (0 : Int), (120 : Int)) else (plan_isPhase.f a2).bind fun p => if p = true then plan_ReadRest l0 a1 a2 else some (0, 0, 0, 0, 120)) else some (0, 0, 0, 0, 120)) = some (r1, r2, r3, r4, r5) := H
   obtain ⟨d, hd, H⟩ := Option.bind_eq_some_iff.mp H
   have A2 := Aside0.mk hd
   clear hd
   cases d with
   | false =>
    have HF := Aside0.mk (show (some ((0 : Int), (0 : Int), (0 : Int), (0 : Int), (120 : Int))) = some (r1, r2, r3, r4, r5) from H)
    clear H
    go_wp2_with (first | (go_at_call 25; refine (plan_Valid.calls k _ _ l0 true _ (Kd.C_below HR0.out HB.out) HC0.out A1.out).mono ?_; rintro e w11 ⟨rfl, hb⟩; have BK2 : Aside0 (RB g w11) := Aside0.mk (blk_below BK.out hb); have HB2 := Aside0.mk (below_step HB.out hb); clear hb) | (go_at_call 49; refine (plan_isDigits.calls a1 false _ A2.out).mono ?_; rintro e w12 ⟨rfl, hb⟩; have BK3 : Aside0 (RB g w12) := Aside0.mk (blk_below BK2.out hb); have HB3 := Aside0.mk (below_step HB2.out hb); clear hb))
    go_meet
    case rel => exact ⟨true, by first | rfl | (simp; done), ⟨by rw [if_pos rfl]; exact HF.out⟩, BK3, HB3⟩
   | true =>
    by_cases hs : 16 < (a1.size : Int)
    ·have HF := Aside0.mk (show (some ((0 : Int), (0 : Int), (0 : Int), (0 : Int), (120 : Int))) = some (r1, r2, r3, r4, r5) by rw [if_pos rfl, if_pos hs] at H; exact H)
     clear H
     have hsb : decide (16 < (a1.size : Int)) = true := decide_eq_true hs
     clear hs
     go_wp2_with (first | (go_at_call 25; refine (plan_Valid.calls k _ _ l0 true _ (Kd.C_below HR0.out HB.out) HC0.out A1.out).mono ?_; rintro e w11 ⟨rfl, hb⟩; have BK2 : Aside0 (RB g w11) := Aside0.mk (blk_below BK.out hb); have HB2 := Aside0.mk (below_step HB.out hb); clear hb) | (go_at_call 49; refine (plan_isDigits.calls a1 true _ A2.out).mono ?_; rintro e w12 ⟨rfl, hb⟩; have BK3 : Aside0 (RB g w12) := Aside0.mk (blk_below BK2.out hb); have HB3 := Aside0.mk (below_step HB2.out hb); clear hb))
     go_meet
     case rel => exact ⟨true, by first | rfl | (simp; done), ⟨by rw [if_pos rfl]; exact HF.out⟩, BK3, HB3⟩
    ·rw [if_pos rfl, if_neg hs] at H
     have hsb : decide (16 < (a1.size : Int)) = false := decide_eq_false hs
     obtain ⟨p, hp, H⟩ := Option.bind_eq_some_iff.mp H
     have A3 := Aside0.mk hp
     clear hs hp
     have HF := Aside0.mk (show (if (!p) = true then some ((0 : Int), (0 : Int), (0 : Int), (0 : Int), (120 : Int)) else plan_ReadRest l0 a1 a2) = some (r1, r2, r3, r4, r5) by cases p <;> simpa using H)
     clear H
     go_wp2_with (first | (go_at_call 25; refine (plan_Valid.calls k _ _ l0 true _ (Kd.C_below HR0.out HB.out) HC0.out A1.out).mono ?_; rintro e w11 ⟨rfl, hb⟩; have BK2 : Aside0 (RB g w11) := Aside0.mk (blk_below BK.out hb); have HB2 := Aside0.mk (below_step HB.out hb); clear hb) | (go_at_call 49; refine (plan_isDigits.calls a1 true _ A2.out).mono ?_; rintro e w12 ⟨rfl, hb⟩; have BK3 : Aside0 (RB g w12) := Aside0.mk (blk_below BK2.out hb); have HB3 := Aside0.mk (below_step HB2.out hb); clear hb) | (go_at_call 35; refine (plan_isPhase.calls a2 p _ A3.out).mono ?_; rintro e w13 ⟨rfl, ⟨nd, rfl⟩⟩))
     go_meet
     case rel => exact ⟨!p, by first | rfl | (simp; done), HF, ⟨blk_drewN BK3.out _⟩, ⟨pw_below_drewN HB3.out _⟩⟩
 case rest =>
  clear HC4
  clear BK HB
  obtain ⟨bad, rfl, HA, BK, HB⟩ := hcut
  cases bad with
  | true =>
   have H : (some ((0 : Int), (0 : Int), (0 : Int), (0 : Int), (120 : Int))) = some (r1, r2, r3, r4, r5) := HA.out
   clear HA
   simp only [Option.some.injEq, Prod.mk.injEq] at H
   obtain ⟨rfl, rfl, rfl, rfl, rfl⟩ := H
   obtain ⟨⟨c0, c1, c2, c3⟩, f0, f1, f2, f3⟩ := RB.cells BK.out
   go_wp2
   refine bodyPost_ret (results_ct rfl _ _ g 44 #[.int .i64 0, .int .i64 0, .int .i64 0, .int .i64 0] (0, 0) _ rfl (put4 BK.out) Tryz.underlying44 rfl (by kernel_rfl)) rfl ?_
   exact ⟨rfl, below4 HB.out GE.out _ _ _ _⟩
  | false =>
   have H : plan_ReadRest l0 a1 a2 = some (r1, r2, r3, r4, r5) := HA.out
   clear HA
   unfold plan_ReadRest at H
   by_cases hsz : l0.length ≤ 1000 ∧ a1.size ≤ 1000
   case neg => rw [if_neg hsz] at H; cases H
   rw [if_pos hsz] at H
   obtain ⟨L, hL, H⟩ := Option.bind_eq_some_iff.mp H
   obtain ⟨o, ho, H⟩ := Option.bind_eq_some_iff.mp H
   have HE := Aside0.mk (Option.some.inj H)
   have HO := Aside0.mk ho
   have HLL := Aside0.mk hL
   obtain ⟨hsz1, hsz2⟩ := hsz
   clear H ho hL
   go_upto_region 4 with (first | (go_at_call 50; refine (plan_entries.calls A0 _ l0 a2 L _ (Kd.C_below HR0.out HB.out) hsz1 HLL.out).mono ?_; rintro e w20 ⟨bm, nm, rfl, hME, hb⟩; have BK2 : Aside0 (RB g w20) := Aside0.mk (blk_below BK.out hb); have HB2 := Aside0.mk (below_step HB.out hb); have HM2 := Aside0.mk hME; clear hb hME))
   clear BK HB
   go_wp2
   go_loopw [40] (fun v wr => ∃ i : Nat, i ≤ a1.size + 1 ∧ v = .int .i64 i ∧ Aside0 (MapE wr bm nm L) ∧ Aside0 (RB g wr) ∧ Aside0 (Below w.heap.size w wr) ∧ Aside0 (readLoop L a1 (a1.size + 1 - i) i = some o)) (fun v _ => a1.size + 1 - (intOf v).toNat)
   case atStart => exact ⟨0, by omega, rfl, HM2, BK2, HB2, ⟨HO.out⟩⟩
   case round =>
    clear HM2 BK2 HB2 HO
    obtain ⟨i, hi, rfl, HM, BK, HB, HG⟩ := hrel
    by_cases hlt : i < a1.size + 1
    ·have hlt2 : (i : Int) ≤ (a1.size : Int) := by omega
     have hG := HG.out
     rw [show a1.size + 1 - i = (a1.size + 1 - (i + 1)) + 1 by omega] at hG
     simp only [readLoop] at hG
     clear HG
     have hxs : (a1.extract 0 i).size ≤ maxLen := by simp [ByteArray.size_extract]; unfold maxLen; omega
     cases hlk : lookE L (a1.extract 0 i) with
     | none =>
      rw [hlk] at hG
      have HG := Aside0.mk hG
      obtain ⟨F, hF1, hFs⟩ := HM.out.at_ _ hlk
      have HFs := Aside0.mk hFs
      clear hG hFs hlk
      go_wp2_with (first | (at_lookup; refine wpList_look_ok _ rfl _ _ 81 rfl 9 84 keyed9 Tryz.underlying81 (zero84 _) bm nm F rfl hF1 (.string (a1.extract 0 i)) _ rfl (keyOf_string_mk Tryz.underlying9 hxs) ?_; rw [HFs.out]; simp only [Option.map_none, Option.getD_none, Option.isSome_none, encE]))
      go_roundw
      case rel => exact ⟨i + 1, by omega, by go_num, ⟨HM.out.alloc _⟩, ⟨blk_alloc BK.out _⟩, ⟨below_alloc HB.out _⟩, HG⟩
      case measure => simp [intOf]; omega
     | some x =>
      rw [hlk] at hG
      simp only [] at hG
      obtain ⟨F, hF1, hFs⟩ := HM.out.at_ _ hlk
      have HFs := Aside0.mk hFs
      obtain ⟨x1, x2, x3⟩ := x
      simp only [] at hG
      clear hFs hlk
      by_cases hd : (a1.size : Int) < x2
      ·rw [if_pos hd] at hG
       have hdb : decide ((a1.size : Int) < x2) = true := decide_eq_true hd
       obtain rfl := Option.some.inj hG
       have HE2 : (1, 0, 0, 0, 0) = (r1, r2, r3, r4, r5) := HE.out
       simp only [Prod.mk.injEq] at HE2
       obtain ⟨rfl, rfl, rfl, rfl, rfl⟩ := HE2
       clear hG HE hd
       have BK3 : ∀ o, RB g (wr.alloc o) := fun o => blk_alloc BK.out o
       obtain ⟨⟨c0, c1, c2, c3⟩, f0, f1, f2, f3⟩ := RB.cells (BK3 (.cells #[.int .i64 x1, .int .i64 x2, .string x3] 84))
       go_wp2_with (first | (at_lookup; refine wpList_look_ok _ rfl _ _ 81 rfl 9 84 keyed9 Tryz.underlying81 (zero84 _) bm nm F rfl hF1 (.string (a1.extract 0 i)) _ rfl (keyOf_string_mk Tryz.underlying9 hxs) ?_; rw [HFs.out]; simp only [Option.map_some, Option.getD_some, Option.isSome_some, encE]))
       refine bodyPost_ret (results_ct rfl _ _ g 44 #[.int .i64 1, .int .i64 0, .int .i64 0, .int .i64 0] (0, 0) _ rfl (put4 (BK3 _)) Tryz.underlying44 rfl (by kernel_rfl)) rfl ?_
       exact ⟨rfl, below4 (below_alloc HB.out _) GE.out _ _ _ _⟩
      ·rw [if_neg hd] at hG
       have hdb : decide ((a1.size : Int) < x2) = false := decide_eq_false hd
       by_cases hk : (i : Int) ≤ x2 ∧ x2 ≤ (a1.size : Int) ∧ x3.size + (a1.extract i x2.toNat).size ≤ 9223372036854775807
       case neg => rw [if_neg hk] at hG; cases hG
       rw [if_pos hk] at hG
       obtain ⟨hk1, hk2, hk3⟩ := hk
       obtain ⟨n, hn, hG⟩ := Option.bind_eq_some_iff.mp hG
       obtain rfl := Option.some.inj hG
       obtain ⟨n1, n2⟩ := n
       have HN := Aside0.mk hn
       have HE2 : (2, n1, x1, x2, 0) = (r1, r2, r3, r4, r5) := HE.out
       simp only [Prod.mk.injEq] at HE2
       obtain ⟨rfl, rfl, rfl, rfl, rfl⟩ := HE2
       have hcat2 : (9223372036854775807 < x3.size + (a1.extract i x2.toNat).size) = False := eq_false (Nat.not_lt.2 hk3)
       have hcat3 := hcat2
       rw [ByteArray.size_extract] at hcat3
       have hcat4 := Nat.not_lt.1 (of_eq_false hcat3)
       have hcat5 := hcat3
       rw [Nat.min_eq_left (by omega : x2.toNat ≤ a1.size)] at hcat5
       clear hG HE hd hn hk3
       have BK3 : Aside0 (RB g (wr.alloc (.cells #[.int .i64 x1, .int .i64 x2, .string x3] 84))) := ⟨blk_alloc BK.out _⟩
       have HW := Aside0.mk (show ∃ W, W = wr.alloc (.cells #[.int .i64 x1, .int .i64 x2, .string x3] 84) from ⟨_, rfl⟩)
       go_upto_region 11 with (first | (at_lookup; refine wpList_look_ok _ rfl _ _ 81 rfl 9 84 keyed9 Tryz.underlying81 (zero84 _) bm nm F rfl hF1 (.string (a1.extract 0 i)) _ rfl (keyOf_string_mk Tryz.underlying9 hxs) ?_; rw [HFs.out]; simp only [Option.map_some, Option.getD_some, Option.isSome_some, encE]))
       obtain ⟨W, hW⟩ := HW.out
       clear HW
       have k0 : W.cell? ⟨wr.heap.size, 0, none⟩ = some (.int .i64 x1) := by rw [hW]; go_simp
       have k1 : W.cell? ⟨wr.heap.size, 1, none⟩ = some (.int .i64 x2) := by rw [hW]; go_simp
       have k2 : W.cell? ⟨wr.heap.size, 2, none⟩ = some (.string x3) := by rw [hW]; go_simp
       have hBW : Below w.heap.size w W := by rw [hW]; exact below_alloc HB.out _
       rw [← hW] at BK3 ⊢
       clear hW
       have hBW := Aside0.mk hBW
       go_region_held3 (fun w' => w'.cell? ⟨wr.heap.size, 0, none⟩ = some (.int .i64 x1) ∧ w'.cell? ⟨wr.heap.size, 1, none⟩ = some (.int .i64 x2) ∧ w'.cell? ⟨wr.heap.size, 2, none⟩ = some (.string x3))
        (first | go_keep | (go_split_ands; refine ⟨?_, ?_, ?_⟩ <;> (apply pw_cell_below hb2.out; assumption)))
        (first
         | (go_simp; go_at_call 45; refine (strconv_Atoi.calls _ n1 n2 _ HN.out).mono ?_; rintro e w2 ⟨rfl, hb2'⟩; have hb2 := Aside0.mk hb2'; clear hb2'))
       have BK4 : Aside0 (RB g w2) := ⟨blk_below (blk_drew BK3.out) hb2.out⟩
       obtain ⟨⟨c0, c1, c2, c3⟩, f0, f1, f2, f3⟩ := RB.cells BK4.out
       replace k0 := pw_cell_below hb2.out k0
       replace k1 := pw_cell_below hb2.out k1
       replace k2 := pw_cell_below hb2.out k2
       have HB4 := Aside0.mk (below_step (below_drew1 hBW.out) hb2.out)
       clear hcat2 hcat3 hcat4 hcat5 hb2 hBW BK3 BK HB HM
       go_wp2
       refine bodyPost_ret (results_ct rfl _ _ g 44 #[.int .i64 2, .int .i64 n1, .int .i64 x1, .int .i64 x2] (0, 0) _ rfl (put4 BK4.out) Tryz.underlying44 rfl (by kernel_rfl)) rfl ?_
       exact ⟨rfl, below4 HB4.out GE.out _ _ _ _⟩
    ·obtain rfl : i = a1.size + 1 := by omega
     have hG := HG.out
     rw [Nat.sub_self] at hG
     simp only [readLoop] at hG
     obtain rfl := Option.some.inj hG
     have HE2 := HE.out
     simp only [readEnd] at HE2
     have HE3 := Aside0.mk HE2
     clear hG HG HE HE2 hlt
     obtain ⟨F, hF1, hF2⟩ := HM.out
     have HF2 := Aside0.mk hF2
     clear hF2 HM
     go_wp2_with (first | (at_range; refine wpList_range _ rfl _ 81 rfl 9 84 keyed9 Tryz.underlying81 bm nm F rfl hF1 ?_; intro w30 cnt0 hrg0 hg0 hs0))
     go_frame
     have BK6 : Aside0 (RB g w30) := ⟨(hg0.block g (blk_lt BK.out) (by simp)).trans BK.out⟩
     have HB6 : Aside0 (Below w.heap.size w w30) := ⟨HB.out.grown hg0 HB.out.size (by simp)⟩
     have hgr : g < wr.heap.size := blk_lt BK.out
     have hbr : w.heap.size ≤ wr.heap.size := HB.out.size
     clear BK HB hg0 hs0 hF1
     generalize wr.heap.size = rb at *
     go_loopw [80] (fun _ wc => ∃ (Lf : Value → Bool) (cnt : Nat), RangeV Tryz.prog 9 wc bm rb nm F Lf cnt ∧ Aside0 (RB g wc) ∧ Aside0 (Below w.heap.size w wc) ∧ Aside0 (∀ s e, lookE L s = some e → Lf (.string s) = false → Lib.hasPrefix s.data.toList a1.data.toList = false)) (fun _ wc => wc.rangeLeft bm rb)
     case atStart => exact ⟨_, _, hrg0, BK6, HB6, ⟨fun s e h1 h2 => by rw [HF2.out, h1] at h2; simp at h2⟩⟩
     case round =>
      clear hrg0 BK6 HB6
      obtain ⟨Lf, cnt, hrg, BK, HB, HL⟩ := hrel
      go_wp2_with (first | (at_next; refine wpList_next _ rfl _ rfl 9 keyed9 (fun x : ByteArray => .string x) invK9 bm rb nm F Lf cnt rfl hrg ?_ ?_))
      ·intro hdone
       have hany := anyKey_none (L := L) (d := a1) (fun s e h => by
        obtain ⟨p, hp, rfl⟩ := lookE_mem h
        have hm := entGo_keys HLL.out (by simp) p hp
        exact HL.out _ e h (hdone _ _ (keyOf_string_mk Tryz.underlying9 (by unfold maxLen; omega))))
       have HE4 := HE3.out
       rw [hany, if_neg (by simp)] at HE4
       simp only [Prod.mk.injEq] at HE4
       obtain ⟨rfl, rfl, rfl, rfl, rfl⟩ := HE4
       obtain ⟨⟨c0, c1, c2, c3⟩, f0, f1, f2, f3⟩ := RB.cells BK.out
       clear HE3 hany hdone
       go_wp2
       refine bodyPost_ret (results_ct rfl _ _ g 44 #[.int .i64 0, .int .i64 0, .int .i64 0, .int .i64 0] (0, 0) _ rfl (put4 BK.out) Tryz.underlying44 rfl (by kernel_rfl)) rfl ?_
       exact ⟨rfl, below4 HB.out GE.out _ _ _ _⟩
      ·intro x kl v w31 cnt1 hkey hLx hFx hrg1 hlt1 hg1 hs1 hen
       have hFx2 := HF2.out x
       rw [hFx] at hFx2
       obtain ⟨e, he, hev⟩ := Option.map_eq_some_iff.mp hFx2.symm
       have HLX := Aside0.mk he
       have HKEY := Aside0.mk hkey
       have HEV := Aside0.mk hev
       have BK5 : Aside0 (RB g w31) := ⟨(hg1.block g (blk_lt BK.out) (by simp; omega)).trans BK.out⟩
       have HB5 : Aside0 (Below w.heap.size w w31) := ⟨HB.out.grown hg1 HB.out.size (fun k e => by cases e; exact hbr)⟩
       clear hFx hFx2 he hkey hev hLx
       cases hpx : Lib.hasPrefix x.data.toList a1.data.toList with
       | true =>
        have HE4 := HE3.out
        rw [anyKey_of HLX.out hpx, if_pos rfl] at HE4
        simp only [Prod.mk.injEq] at HE4
        obtain ⟨rfl, rfl, rfl, rfl, rfl⟩ := HE4
        have HPX := Aside0.mk (show strings_HasPrefix.f x a1 = some true by unfold strings_HasPrefix.f; rw [hpx])
        clear hpx HE3
        go_wp2_with (first | (go_at_call 38; refine (strings_HasPrefix.calls x a1 true _ HPX.out).mono ?_; rintro e6 w32 ⟨rfl, hb6⟩; have BK7 : Aside0 (RB g w32) := ⟨blk_below BK5.out hb6⟩; obtain ⟨⟨c0, c1, c2, c3⟩, f0, f1, f2, f3⟩ := RB.cells BK7.out; have HB7 := Aside0.mk (below_step HB5.out hb6); clear hb6))
        refine bodyPost_ret (results_ct rfl _ _ g 44 #[.int .i64 1, .int .i64 0, .int .i64 0, .int .i64 0] (0, 0) _ rfl (put4 BK7.out) Tryz.underlying44 rfl (by kernel_rfl)) rfl ?_
        exact ⟨rfl, below4 HB7.out GE.out _ _ _ _⟩
       | false =>
        have HPX := Aside0.mk (show strings_HasPrefix.f x a1 = some false by unfold strings_HasPrefix.f; rw [hpx])
        have HP2 := Aside0.mk hpx
        have HL1 := Aside0.mk hlt1
        have HRG := Aside0.mk hrg
        clear hpx hlt1 hrg
        go_wp2_with (first | (go_at_call 38; refine (strings_HasPrefix.calls x a1 false _ HPX.out).mono ?_; rintro e6 w32 ⟨rfl, hb6⟩; have BK7 : Aside0 (RB g w32) := ⟨blk_below BK5.out hb6⟩; have HB7 := Aside0.mk (below_step HB5.out hb6); have HR7 := Aside0.mk (hrg1.below hb6); clear hb6))
        go_roundw
        case rel =>
         have hnew : ∀ (s : ByteArray) (e2 : Ent), lookE L s = some e2 → (fun z => Lf z && !@decide (z = Value.string x) (Classical.propDecidable _)) (Value.string s) = false → Lib.hasPrefix s.data.toList a1.data.toList = false := fun s e2 h1 h2 => by
          by_cases hsx : s = x
          ·rw [hsx]; exact HP2.out
          ·exact HL.out s e2 h1 (by simpa [hsx] using h2)
         refine ⟨_, _, _, _, _, _, _, _, _, _, ⟨_, cnt1, HR7.out, BK7, HB7, ⟨hnew⟩⟩, rfl⟩
        case measure => rw [HR7.out.left_eq, HRG.out.left_eq]; exact HL1.out
end Go.Proofs.YtlmfoblgheepoaaGreatDoor.Pl
end
section
open Go.Proofs.YtlmfoblgheepoaaGreatDoor.Z
namespace Go.Proofs.YtlmfoblgheepoaaGreatDoor.Pl
open Go.RowKit Go.Proofs.YtlmfoblgheepoaaGreatDoorW.PrintWords Go.Proofs.YtlmfoblgheepoaaGreatDoorW.PrintLast Go.Proofs.YtlmfoblgheepoaaGreatDoorW.PrintMore
attribute [local go_sem] max2_int min2_int max_two min_two max_three min_three max_four min_four
set_option linter.unusedVariables false
set_option linter.unusedSimpArgs false
def readsB (r1 r4 r5 : Int) (s : ByteArray) : Bool := decide (r5 = 0) && decide (r1 = 2) && decide (r4 = (s.size : Int))
set_option maxHeartbeats 4000000 in
set_option maxRecDepth 100000 in
theorem plan_Same_1.calls (k : Nat) (A0 : Option Addr) (c0 : Nat) (l0 : List (S29)) (s : ByteArray) (b : Nat) (r1 r2 r3 r4 r5 : Int) (w : World) (hb : w.cell? ⟨b, 0, none⟩ = some (.slice A0 l0.length c0)) (hr0 : Kd.C k29 w A0 l0.length l0) (hc0 : l0.length ≤ c0) (h : plan_Read.f k l0 s 2 = some (r1, r2, r3, r4, r5)) :
 Calls Tryz.prog 53 #[.string s, .pointer (some ⟨b, 0, none⟩)] w fun e w' => e = .returned (.tuple #[.int .i64 r2, .bool (readsB r1 r4 r5 s)]) ∧ Below w.heap.size w w' := by
 have HR0 := Aside0.mk hr0
 have HC0 := Aside0.mk hc0
 have A1 := Aside0.mk h
 clear hr0 hc0 h
 by_cases e5 : r5 = 0
 ·have b5 : (r5 == 0) = true := beq_iff_eq.mpr e5
  by_cases e1 : r1 = 2
  ·have b1 : (r1 == 2) = true := beq_iff_eq.mpr e1
   have HV := Aside0.mk (show readsB r1 r4 r5 s = (r4 == (s.size : Int)) by simp [readsB, e5, e1]; rfl)
   clear e5 e1
   go_enter Tryz.func53, Tryz.ntmps53
   go_wp2_with (first | (go_at_call 21; refine (plan_Read.calls k _ _ l0 s 2 r1 r2 r3 r4 r5 _ HR0.out HC0.out A1.out).mono ?_; rintro e w2 ⟨rfl, hb2⟩; have HB2 := Aside0.mk hb2; clear hb2))
   go_quiet (fail)
   go_wp2
   go_ret2
   exact ⟨by (rw [HV.out] <;> rfl), by repeat (first | exact HB2.out | apply below_alloc | apply pw_below_drewN | apply below_drew1)⟩
  ·have b1 : (r1 == 2) = false := beq_eq_false_iff_ne.mpr e1
   have HV := Aside0.mk (show readsB r1 r4 r5 s = false by simp [readsB, e1])
   clear e5 e1
   go_enter Tryz.func53, Tryz.ntmps53
   go_wp2_with (first | (go_at_call 21; refine (plan_Read.calls k _ _ l0 s 2 r1 r2 r3 r4 r5 _ HR0.out HC0.out A1.out).mono ?_; rintro e w2 ⟨rfl, hb2⟩; have HB2 := Aside0.mk hb2; clear hb2))
   go_quiet (fail)
   go_wp2
   go_ret2
   exact ⟨by (rw [HV.out] <;> rfl), by repeat (first | exact HB2.out | apply below_alloc | apply pw_below_drewN | apply below_drew1)⟩
 ·have b5 : (r5 == 0) = false := beq_eq_false_iff_ne.mpr e5
  have HV := Aside0.mk (show readsB r1 r4 r5 s = false by simp [readsB, e5])
  clear e5
  go_enter Tryz.func53, Tryz.ntmps53
  go_wp2_with (first | (go_at_call 21; refine (plan_Read.calls k _ _ l0 s 2 r1 r2 r3 r4 r5 _ HR0.out HC0.out A1.out).mono ?_; rintro e w2 ⟨rfl, hb2⟩; have HB2 := Aside0.mk hb2; clear hb2))
  go_quiet (fail)
  go_wp2
  go_ret2
  exact ⟨by (rw [HV.out] <;> rfl), by repeat (first | exact HB2.out | apply below_alloc | apply pw_below_drewN | apply below_drew1)⟩
def plan_Same.f (k : Nat) (l0 : List S29) (a1 a2 : ByteArray) : Option Bool :=
 (plan_Read.f k l0 a1 2).bind fun x => (plan_Read.f k l0 a2 2).bind fun y =>
  some ((readsB x.1 x.2.2.2.1 x.2.2.2.2 a1 && readsB y.1 y.2.2.2.1 y.2.2.2.2 a2) && decide (x.2.1 = y.2.1))
theorem plan_Same.mono : ∀ a0 a1 a2 k, LeO (plan_Same.f k a0 a1 a2) (plan_Same.f (k + 1) a0 a1 a2) := by
 intro a0 a1 a2 k
 unfold plan_Same.f
 exact LeO.bind (plan_Read.mono _ _ _ _) (fun _ => LeO.bind (plan_Read.mono _ _ _ _) (fun _ => LeO.refl _))
set_option maxHeartbeats 4000000 in
set_option maxRecDepth 100000 in
theorem plan_Same.calls (k : Nat) (A0 : Option Addr) (c0 : Nat) (l0 : List (S29)) (a1 a2 : ByteArray) (r : Bool) (w : World) (hr0 : Kd.C k29 w A0 l0.length l0) (hc0 : l0.length ≤ c0) (h : plan_Same.f k l0 a1 a2 = some r) :
 Calls Tryz.prog 23 #[.slice A0 l0.length c0, .string a1, .string a2] w fun e w' => e = .returned (.bool r) ∧ Below w.heap.size w w' := by
 have HR0 := Aside0.mk hr0
 have HC0 := Aside0.mk hc0
 unfold plan_Same.f at h
 obtain ⟨⟨x1, x2, x3, x4, x5⟩, hx, h⟩ := Option.bind_eq_some_iff.mp h
 obtain ⟨⟨y1, y2, y3, y4, y5⟩, hy, h⟩ := Option.bind_eq_some_iff.mp h
 have A1 := Aside0.mk hx
 have A2 := Aside0.mk hy
 have HR := Aside0.mk (Option.some.inj h)
 clear hr0 hc0 hx hy h
 obtain ⟨u, hu⟩ : ∃ u, readsB x1 x4 x5 a1 = u := ⟨_, rfl⟩
 obtain ⟨v, hv⟩ : ∃ v, readsB y1 y4 y5 a2 = v := ⟨_, rfl⟩
 have HU := Aside0.mk hu
 have HV := Aside0.mk hv
 have hB0 : Below w.heap.size w (w.alloc (.cells #[.slice A0 l0.length c0] 24)) := below_alloc (Below.refl _ _) _
 have HB0 := Aside0.mk hB0
 have HC1 := Aside0.mk (show (w.alloc (.cells #[.slice A0 l0.length c0] 24)).cell? ⟨w.heap.size, 0, none⟩ = some (.slice A0 l0.length c0) by go_simp)
 clear hu hv hB0
 have H1 := fun (W : World) (hB : Below w.heap.size w W) (hc : W.cell? ⟨w.heap.size, 0, none⟩ = some (.slice A0 l0.length c0)) => plan_Same_1.calls k A0 c0 l0 a1 w.heap.size x1 x2 x3 x4 x5 W hc (Kd.C_below HR0.out hB) HC0.out A1.out
 have H2 := fun (W : World) (hB : Below w.heap.size w W) (hc : W.cell? ⟨w.heap.size, 0, none⟩ = some (.slice A0 l0.length c0)) => plan_Same_1.calls k A0 c0 l0 a2 w.heap.size y1 y2 y3 y4 y5 W hc (Kd.C_below HR0.out hB) HC0.out A2.out
 have HH1 := Aside0.mk H1
 have HH2 := Aside0.mk H2
 clear H1 H2
 go_enter Tryz.func23, Tryz.ntmps23
 go_wp2_with fail
 refine (HH1.out _ HB0.out HC1.out).mono ?_
 rintro e w2 ⟨rfl, hb2⟩
 rw [HU.out]
 have HB2 := Aside0.mk (below_step HB0.out hb2)
 have HC2 := Aside0.mk (pw_cell_below hb2 HC1.out)
 clear hb2
 go_wp2_with fail
 refine (HH2.out _ HB2.out HC2.out).mono ?_
 rintro e w3 ⟨rfl, hb3⟩
 rw [HV.out]
 have HB3 := Aside0.mk (below_step HB2.out hb3)
 clear hb3
 have HR3 := HR.out
 simp only [HU.out, HV.out] at HR3
 clear HR HU HV
 cases u <;> cases v
 all_goals
  go_wp2
  go_ret
  exact ⟨by rw [← HR3]; first | rfl | (simp; done) | (simp; rfl), HB3.out⟩
end Go.Proofs.YtlmfoblgheepoaaGreatDoor.Pl
end
section
open Go.Proofs.YtlmfoblgheepoaaGreatDoor.Z
namespace Go.Proofs.YtlmfoblgheepoaaGreatDoor.Pl
open Go.RowKit Go.Proofs.YtlmfoblgheepoaaGreatDoorW.PrintWords Go.Proofs.YtlmfoblgheepoaaGreatDoorW.PrintLast Go.Proofs.YtlmfoblgheepoaaGreatDoorW.PrintMore
attribute [local go_sem] max2_int min2_int max_two min_two max_three min_three max_four min_four
set_option linter.unusedVariables false
set_option linter.unusedSimpArgs false
theorem eqA40 (d : Nat) (w : World) (x0 y0 : Int) (x1 y1 : Int) :
 (Op.equalIn (d + 2) 40 (.agg #[.int .i64 x0, .int .i64 x1]) (.agg #[.int .i64 y0, .int .i64 y1])).run Tryz.prog w = .ok (x0 == y0 && (x1 == y1)) w := by
 refine eqA_of Tryz.underlying40 (by kernel_rfl) ?_
 refine eqf_cons (by rfl) (zq32) (zq32) (by go_simp) ?_
 exact eqf_last (by rfl) (zq32) (zq32) (by go_simp)
end Go.Proofs.YtlmfoblgheepoaaGreatDoor.Pl
end
