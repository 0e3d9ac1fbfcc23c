/- Hj: part 3 of the proof that the law's row holds: the printed walk of the program's functions, the plain law, the row. -/
import Derived.Deep.QuietTactic
import Derived.BigQuiet
import Derived.ArgAppend
import Derived.Test.YtkfejgdeknemaaaGreatDoorQHj0
import Derived.Test.YtkfejgdeknemaaaGreatDoorQHj1
namespace Go.Proofs.YtkfejgdeknemaaaGreatDoor.Z
theorem zr4 {p : Prop} (h : p := by exact k37_mkM _ _ _ (⟨(rd_T37 t532 x19_1).f0, (rd_T37 t532 x19_1).f1⟩ : S37)) : p := h
theorem zr5 {p : Prop} (h : p := by exact (zW HB)) : p := h
theorem zr6 {p : Prop} (h : p := by exact (fun k_ hk => Kd.fresh' (Kd.R_lt (zR HO_15)) k_ hk)) : p := h
theorem zr7 {p : Prop} (h : p := by exact (zR HO_17)) : p := h
theorem zr9 {p : Prop} (h : p := by (with_reducible repeat (first | apply Kd.R_alloc | apply Kd.R_drewN | apply Kd.R_drew)); exact Kd.R_mono HO_15.out (fun _ hk => ⟨trivial, hk⟩)) : p := h
theorem zr10 {p : Prop} (h : p := by exact k37_mkM _ _ _ (⟨(wrap64 (10 + t536)), wrap64 (2 + t539)⟩ : S37)) : p := h
theorem zr11 {p : Prop} (h : p := by have := LMc24.out; omega) : p := h
theorem zr12 {p : Prop} (h : p := by exact k37_mkM _ _ _ (⟨(wrap64 (10 + t536)), wrap64 (2 + t553)⟩ : S37)) : p := h
theorem zr13 {p : Prop} (h : p := by exact zC (Kd.R_reads' HO_14.out).2.2) : p := h
theorem zr14 {p : Prop} (h : p := by exact (Kd.R_reads' HO_14.out).2.1) : p := h
theorem zr15 {p : Prop} (h : p := by exact zC (Kd.R_reads' HO_15.out).2.2) : p := h
theorem zr16 {p : Prop} (h : p := by exact (Kd.R_reads' HO_15.out).2.1) : p := h
theorem zr19 {p : Prop} (h : p := by refine (Kd.R_reads' (e := 41) (base := w.heap.size) (ok := fun k_ => True) (n := t529.length) (c := co46) ?_).2.2; exact (by (with_reducible repeat (first | apply Kd.R_alloc | apply Kd.R_drewN | apply Kd.R_drew)); exact (Kd.R_mono (Kd.R_far (p := ⟨gb565, 2, none⟩) (Kd.R_far (p := ⟨gb565, 1, none⟩) (Kd.R_far (p := ⟨gb565, 0, none⟩) (Kd.R_types HO_14.out BK565.out (by decide)) (fun _ hk => hk.2) (.int .i64 t557)) (fun _ hk => hk.2) (.slice Ao50 t558.length co50)) (fun _ hk => hk.2) (.slice Ao51 t561.length co51)) (fun _ h_ => h_.1)))) : p := h
theorem zr20 {p : Prop} (h : p := by (with_reducible repeat (first | apply Kd.R_alloc | apply Kd.R_drewN | apply Kd.R_drew)); exact (Kd.R_mono (Kd.R_far (p := ⟨gb565, 2, none⟩) (Kd.R_far (p := ⟨gb565, 1, none⟩) (Kd.R_far (p := ⟨gb565, 0, none⟩) (Kd.R_types HO_14.out BK565.out (by decide)) (fun _ hk => hk.2) (.int .i64 t557)) (fun _ hk => hk.2) (.slice Ao50 t558.length co50)) (fun _ hk => hk.2) (.slice Ao51 t561.length co51)) (fun _ h_ => h_.1))) : p := h
theorem zr21 {p : Prop} (h : p := by refine (Kd.R_reads' (e := 37) (base := w.heap.size) (ok := fun k_ => some k_ ≠ (.slice Ao38 t532.length co38 : Value).ownBlock) (n := x17_36.length) (c := co52) ?_).2.2; exact (by (with_reducible repeat (first | apply Kd.R_alloc | apply Kd.R_drewN | apply Kd.R_drew)); exact (Kd.R_mono (Kd.R_far (p := ⟨gb565, 2, none⟩) (Kd.R_far (p := ⟨gb565, 1, none⟩) (Kd.R_far (p := ⟨gb565, 0, none⟩) (Kd.R_types HO_17.out BK565.out (by decide)) (fun _ hk => hk.2) (.int .i64 t557)) (fun _ hk => hk.2) (.slice Ao50 t558.length co50)) (fun _ hk => hk.2) (.slice Ao51 t561.length co51)) (fun _ h_ => h_.1)))) : p := h
theorem zr22 {p : Prop} (h : p := by (with_reducible repeat (first | apply Kd.R_alloc | apply Kd.R_drewN | apply Kd.R_drew)); exact (Kd.R_mono (Kd.R_far (p := ⟨gb565, 2, none⟩) (Kd.R_far (p := ⟨gb565, 1, none⟩) (Kd.R_far (p := ⟨gb565, 0, none⟩) (Kd.R_types HO_17.out BK565.out (by decide)) (fun _ hk => hk.2) (.int .i64 t557)) (fun _ hk => hk.2) (.slice Ao50 t558.length co50)) (fun _ hk => hk.2) (.slice Ao51 t561.length co51)) (fun _ h_ => h_.1))) : p := h
theorem zr23 {p : Prop} (h : p := by exact (Kd.R_reads' HO_17.out).2.1) : p := h
theorem zr24 {p : Prop} (h : p := by (with_reducible repeat (first | apply Kd.R_alloc | apply Kd.R_drewN | apply Kd.R_drew)); exact (Kd.R_mono (Kd.R_far (p := ⟨gb565, 2, none⟩) (Kd.R_far (p := ⟨gb565, 1, none⟩) (Kd.R_far (p := ⟨gb565, 0, none⟩) (Kd.R_types HO_15.out BK565.out (by decide)) (fun _ hk => hk.2) (.int .i64 t557)) (fun _ hk => hk.2) (.slice Ao50 t558.length co50)) (fun _ hk => hk.2) (.slice Ao51 t561.length co51)) (fun _ h_ => h_.1))) : p := h
theorem zr25 {p : Prop} (h : p := by (with_reducible repeat (first | apply Kd.R_alloc | apply Kd.R_drewN | apply Kd.R_drew)); exact (Kd.R_mono (Kd.R_far (p := ⟨gb565, 2, none⟩) (Kd.R_far (p := ⟨gb565, 1, none⟩) (Kd.R_far (p := ⟨gb565, 0, none⟩) (Kd.R_types HO560.out BK565.out (by decide)) (fun _ hk => hk.2) (.int .i64 t557)) (fun _ hk => hk.2) (.slice Ao50 t558.length co50)) (fun _ hk => hk.2) (.slice Ao51 t561.length co51)) (fun _ h_ => h_.1))) : p := h
theorem zr26 {p : Prop} (h : p := by (with_reducible repeat (first | apply Kd.R_alloc | apply Kd.R_drewN | apply Kd.R_drew)); exact (Kd.R_mono (Kd.R_far (p := ⟨gb565, 2, none⟩) (Kd.R_far (p := ⟨gb565, 1, none⟩) (Kd.R_far (p := ⟨gb565, 0, none⟩) (Kd.R_types HO563.out BK565.out (by decide)) (fun _ hk => hk.2) (.int .i64 t557)) (fun _ hk => hk.2) (.slice Ao50 t558.length co50)) (fun _ hk => hk.2) (.slice Ao51 t561.length co51)) (fun _ h_ => h_.1))) : p := h
theorem zr27 {p : Prop} (h : p := by (with_reducible repeat (first | refine blk_drewN ?_ _ | refine blk_drew ?_ | refine blk_alloc ?_ _)); refine blk_put (cs := #[.int .i64 t557, .slice Ao50 t558.length co50, .slice none 0 0]) ?_ 2 _ rfl; (with_reducible repeat (first | refine blk_drewN ?_ _ | refine blk_drew ?_ | refine blk_alloc ?_ _)); refine blk_put (cs := #[.int .i64 t557, .slice none 0 0, .slice none 0 0]) ?_ 1 _ rfl; (with_reducible repeat (first | refine blk_drewN ?_ _ | refine blk_drew ?_ | refine blk_alloc ?_ _)); refine blk_put (cs := #[.int .i64 0, .slice none 0 0, .slice none 0 0]) ?_ 0 _ rfl; (with_reducible repeat (first | refine blk_drewN ?_ _ | refine blk_drew ?_ | refine blk_alloc ?_ _)); exact BK565.out) : p := h
theorem zr28 {p : Prop} (h : p := by rw [hg]; exact Nat.ne_of_lt (blk_lt (zB BK565))) : p := h
theorem zr29 {p : Prop} (h : p := by rw [hg]; exact Nat.ne_of_gt (blk_lt (zB BK565))) : p := h
theorem zr30 {p : Prop} (h : p := by exact zC (Kd.R_reads' HO_566001.out).2.2) : p := h
theorem zr31 {p : Prop} (h : p := by exact (Kd.R_reads' HO_566001.out).2.1) : p := h
theorem zr32 {p : Prop} (h : p := by exact zC (Kd.R_reads' HO_566002.out).2.2) : p := h
theorem zr33 {p : Prop} (h : p := by exact (Kd.R_reads' HO_566002.out).2.1) : p := h
theorem zr34 {p : Prop} (h : p := by exact zC (Kd.R_reads' HO_575001.out).2.2) : p := h
theorem zr35 {p : Prop} (h : p := by exact (Kd.R_reads' HO_575001.out).2.1) : p := h
theorem zr36 {p : Prop} (h : p := by exact zC (Kd.R_reads' HO_575002.out).2.2) : p := h
theorem zr37 {p : Prop} (h : p := by exact (Kd.R_reads' HO_575002.out).2.1) : p := h
theorem zr38 {p : Prop} (h : p := by rw [hg]; exact Nat.ne_of_lt (blk_lt (zB BK574))) : p := h
theorem zr39 {p : Prop} (h : p := by rw [hg]; exact Nat.ne_of_gt (blk_lt (zB BK574))) : p := h
theorem zr40 {p : Prop} (h : p := by rw [hw]; exact (by (with_reducible repeat (first | apply Kd.R_alloc | apply Kd.R_drewN | apply Kd.R_drew)); exact Kd.R_mono (Kd.R_far (p := ⟨gb586, 2, none⟩) (Kd.R_far (p := ⟨gb586, 1, none⟩) (Kd.R_far (p := ⟨gb586, 0, none⟩) (Kd.R_types HO_14.out BK586.out (by decide)) (fun _ hk => hk.2) (.int .i64 t578)) (fun _ hk => hk.2) (.slice Ao95 t579.length co95)) (fun _ hk => hk.2) (.slice Ao96 t582.length co96)) (fun _ hk => trivial))) : p := h
theorem zr42 {p : Prop} (h : p := by rw [hw]; exact (by (with_reducible repeat (first | apply Kd.R_alloc | apply Kd.R_drewN | apply Kd.R_drew)); exact Kd.R_mono (Kd.R_far (p := ⟨gb586, 2, none⟩) (Kd.R_far (p := ⟨gb586, 1, none⟩) (Kd.R_far (p := ⟨gb586, 0, none⟩) (Kd.R_types HO_15.out BK586.out (by decide)) (fun _ hk => hk.2) (.int .i64 t578)) (fun _ hk => hk.2) (.slice Ao95 t579.length co95)) (fun _ hk => hk.2) (.slice Ao96 t582.length co96)) (fun _ hk => trivial))) : p := h
theorem zr44 {p : Prop} (h : p := by rw [hw]; exact (by (with_reducible repeat (first | apply Kd.R_alloc | apply Kd.R_drewN | apply Kd.R_drew)); exact Kd.R_mono (Kd.R_far (p := ⟨gb586, 2, none⟩) (Kd.R_far (p := ⟨gb586, 1, none⟩) (Kd.R_far (p := ⟨gb586, 0, none⟩) (Kd.R_types HO_566001.out BK586.out (by decide)) (fun _ hk => hk.2) (.int .i64 t578)) (fun _ hk => hk.2) (.slice Ao95 t579.length co95)) (fun _ hk => hk.2) (.slice Ao96 t582.length co96)) (fun _ hk => ⟨hk.1.1.1.1, ⟨hk.1.1.1.2.1, ⟨hk.1.1.1.2.2, ⟨hk.1.1.2, hk.1.2⟩⟩⟩⟩))) : p := h
theorem zr46 {p : Prop} (h : p := by rw [hw]; exact (by (with_reducible repeat (first | apply Kd.R_alloc | apply Kd.R_drewN | apply Kd.R_drew)); exact Kd.R_mono (Kd.R_far (p := ⟨gb586, 2, none⟩) (Kd.R_far (p := ⟨gb586, 1, none⟩) (Kd.R_far (p := ⟨gb586, 0, none⟩) (Kd.R_types HO_566002.out BK586.out (by decide)) (fun _ hk => hk.2) (.int .i64 t578)) (fun _ hk => hk.2) (.slice Ao95 t579.length co95)) (fun _ hk => hk.2) (.slice Ao96 t582.length co96)) (fun _ hk => ⟨hk.1.1.1.1, ⟨hk.1.1.1.2.1, ⟨hk.1.1.1.2.2, ⟨hk.1.1.2, hk.1.2⟩⟩⟩⟩))) : p := h
theorem zr48 {p : Prop} (h : p := by rw [hw]; exact (by (with_reducible repeat (first | apply Kd.R_alloc | apply Kd.R_drewN | apply Kd.R_drew)); exact Kd.R_mono (Kd.R_far (p := ⟨gb586, 2, none⟩) (Kd.R_far (p := ⟨gb586, 1, none⟩) (Kd.R_far (p := ⟨gb586, 0, none⟩) (Kd.R_types HO_575001.out BK586.out (by decide)) (fun _ hk => hk.2) (.int .i64 t578)) (fun _ hk => hk.2) (.slice Ao95 t579.length co95)) (fun _ hk => hk.2) (.slice Ao96 t582.length co96)) (fun _ hk => ⟨hk.1.1.1.1, ⟨hk.1.1.1.2.1, ⟨hk.1.1.1.2.2, ⟨hk.1.1.2, hk.1.2⟩⟩⟩⟩))) : p := h
theorem zr50 {p : Prop} (h : p := by rw [hw]; exact (by (with_reducible repeat (first | apply Kd.R_alloc | apply Kd.R_drewN | apply Kd.R_drew)); exact Kd.R_mono (Kd.R_far (p := ⟨gb586, 2, none⟩) (Kd.R_far (p := ⟨gb586, 1, none⟩) (Kd.R_far (p := ⟨gb586, 0, none⟩) (Kd.R_types HO_575002.out BK586.out (by decide)) (fun _ hk => hk.2) (.int .i64 t578)) (fun _ hk => hk.2) (.slice Ao95 t579.length co95)) (fun _ hk => hk.2) (.slice Ao96 t582.length co96)) (fun _ hk => ⟨hk.1.1.1.1, ⟨hk.1.1.1.2.1, ⟨hk.1.1.1.2.2, ⟨hk.1.1.2, hk.1.2⟩⟩⟩⟩))) : p := h
theorem zr52 {p : Prop} (h : p := by rw [hw]; exact (by (with_reducible repeat (first | apply Kd.R_alloc | apply Kd.R_drewN | apply Kd.R_drew)); exact Kd.R_mono (Kd.R_far (p := ⟨gb586, 2, none⟩) (Kd.R_far (p := ⟨gb586, 1, none⟩) (Kd.R_far (p := ⟨gb586, 0, none⟩) (Kd.R_types HO581.out BK586.out (by decide)) (fun _ hk => hk.2) (.int .i64 t578)) (fun _ hk => hk.2) (.slice Ao95 t579.length co95)) (fun _ hk => hk.2) (.slice Ao96 t582.length co96)) (fun _ hk => ⟨hk.1.1.1.1.2, ⟨hk.1.1.1.2, ⟨hk.1.1.2, ⟨hk.1.2, hk.1.1.1.1.1⟩⟩⟩⟩))) : p := h
theorem zr54 {p : Prop} (h : p := by rw [hw]; exact (by (with_reducible repeat (first | apply Kd.R_alloc | apply Kd.R_drewN | apply Kd.R_drew)); exact Kd.R_mono (Kd.R_far (p := ⟨gb586, 2, none⟩) (Kd.R_far (p := ⟨gb586, 1, none⟩) (Kd.R_far (p := ⟨gb586, 0, none⟩) (Kd.R_types HO584.out BK586.out (by decide)) (fun _ hk => hk.2) (.int .i64 t578)) (fun _ hk => hk.2) (.slice Ao95 t579.length co95)) (fun _ hk => hk.2) (.slice Ao96 t582.length co96)) (fun _ hk => ⟨hk.1.1.1.1.2, ⟨hk.1.1.1.2, ⟨hk.1.1.2, ⟨hk.1.2, hk.1.1.1.1.1⟩⟩⟩⟩))) : p := h
theorem zr56 {p : Prop} (h : p := by rw [hw]; exact (by (with_reducible repeat (first | refine blk_drewN ?_ _ | refine blk_drew ?_ | refine blk_alloc ?_ _)); refine blk_far ?_ NB565_586.out _; (with_reducible repeat (first | refine blk_drewN ?_ _ | refine blk_drew ?_ | refine blk_alloc ?_ _)); refine blk_far ?_ NB565_586.out _; (with_reducible repeat (first | refine blk_drewN ?_ _ | refine blk_drew ?_ | refine blk_alloc ?_ _)); refine blk_far ?_ NB565_586.out _; (with_reducible repeat (first | refine blk_drewN ?_ _ | refine blk_drew ?_ | refine blk_alloc ?_ _)); exact BK565.out)) : p := h
theorem zr58 {p : Prop} (h : p := by rw [hw]; exact (by (with_reducible repeat (first | refine blk_drewN ?_ _ | refine blk_drew ?_ | refine blk_alloc ?_ _)); refine blk_far ?_ NB574_586.out _; (with_reducible repeat (first | refine blk_drewN ?_ _ | refine blk_drew ?_ | refine blk_alloc ?_ _)); refine blk_far ?_ NB574_586.out _; (with_reducible repeat (first | refine blk_drewN ?_ _ | refine blk_drew ?_ | refine blk_alloc ?_ _)); refine blk_far ?_ NB574_586.out _; (with_reducible repeat (first | refine blk_drewN ?_ _ | refine blk_drew ?_ | refine blk_alloc ?_ _)); exact BK574.out)) : p := h
theorem zr60 {p : Prop} (h : p := by rw [hw]; exact (by (with_reducible repeat (first | refine blk_drewN ?_ _ | refine blk_drew ?_ | refine blk_alloc ?_ _)); refine blk_put (cs := #[.int .i64 t578, .slice Ao95 t579.length co95, .slice none 0 0]) ?_ 2 _ rfl; (with_reducible repeat (first | refine blk_drewN ?_ _ | refine blk_drew ?_ | refine blk_alloc ?_ _)); refine blk_put (cs := #[.int .i64 t578, .slice none 0 0, .slice none 0 0]) ?_ 1 _ rfl; (with_reducible repeat (first | refine blk_drewN ?_ _ | refine blk_drew ?_ | refine blk_alloc ?_ _)); refine blk_put (cs := #[.int .i64 0, .slice none 0 0, .slice none 0 0]) ?_ 0 _ rfl; (with_reducible repeat (first | refine blk_drewN ?_ _ | refine blk_drew ?_ | refine blk_alloc ?_ _)); exact BK586.out)) : p := h
theorem zr62 {p : Prop} (h : p := by rw [Ny587.out, List.length_drop] <;> omega) : p := h
theorem zr63 {p : Prop} (h : p := by exact zC (Kd.R_reads' HO581.out).2.2) : p := h
theorem zr64 {p : Prop} (h : p := by exact (Kd.R_reads' HO581.out).2.1) : p := h
theorem zr65 {p : Prop} (h : p := by repeat (first | exact (by repeat (first | (with_reducible exact HR590.out) | (with_reducible refine Kd.C_alloc ?_ _) | (with_reducible refine Kd.C_drewN ?_ _) | (with_reducible refine Kd.C_drew ?_) | exact HR590.out)) | (with_reducible refine Kd.C_alloc ?_ _) | (with_reducible refine Kd.C_drewN ?_ _) | (with_reducible refine Kd.C_drew ?_))) : p := h
theorem zr67 {p : Prop} (h : p := by rw [Ny592.out, List.length_drop] <;> omega) : p := h
theorem zr68 {p : Prop} (h : p := by exact zC (Kd.R_reads' HO584.out).2.2) : p := h
theorem zr69 {p : Prop} (h : p := by exact (Kd.R_reads' HO584.out).2.1) : p := h
theorem zr70 {p : Prop} (h : p := by repeat (first | exact (by repeat (first | (with_reducible exact HR595.out) | (with_reducible refine Kd.C_alloc ?_ _) | (with_reducible refine Kd.C_drewN ?_ _) | (with_reducible refine Kd.C_drew ?_) | exact HR595.out)) | (with_reducible refine Kd.C_alloc ?_ _) | (with_reducible refine Kd.C_drewN ?_ _) | (with_reducible refine Kd.C_drew ?_))) : p := h
theorem zr74 {p : Prop} (h : p := by have := HK1.out; first | omega | exact Nat.le_refl _) : p := h
theorem zr75 {p : Prop} (h : p := by (with_reducible repeat (first | apply Kd.R_alloc | apply Kd.R_drewN | apply Kd.R_drew)); exact HO_14.out) : p := h
theorem zr76 {p : Prop} (h : p := by (with_reducible repeat (first | apply Kd.R_alloc | apply Kd.R_drewN | apply Kd.R_drew)); exact HO_15.out) : p := h
theorem zr77 {p : Prop} (h : p := by (with_reducible repeat (first | apply Kd.R_alloc | apply Kd.R_drewN | apply Kd.R_drew)); exact HO_17.out) : p := h
theorem zr78 {p : Prop} (h : p := by have := HK1.out; have := HJ17.out; omega) : p := h
theorem zr79 {p : Prop} (h : p := by (with_reducible repeat (first | apply Kd.R_alloc | apply Kd.R_drewN | apply Kd.R_drew)); exact Kd.R_mono HO_15.out (fun _ hk => hk.2)) : p := h
theorem zr80 {p : Prop} (h : p := by have := HK1.out; have := HJ36.out; first | omega | exact Nat.le_refl _) : p := h
theorem zr81 {p : Prop} (h : p := by (with_reducible repeat (first | apply Kd.R_alloc | apply Kd.R_drewN | apply Kd.R_drew)); exact Kd.R_mono (Kd.R_far (p := ⟨gb574, 2, none⟩) (Kd.R_far (p := ⟨gb574, 1, none⟩) (Kd.R_far (p := ⟨gb574, 0, none⟩) (Kd.R_types HO_14.out BK574.out (by decide)) (fun _ hk => hk.2) (.int .i64 t566)) (fun _ hk => hk.2) (.slice Ao57 t567.length co57)) (fun _ hk => hk.2) (.slice Ao58 t570.length co58)) (fun _ hk => trivial)) : p := h
theorem zr82 {p : Prop} (h : p := by (with_reducible repeat (first | apply Kd.R_alloc | apply Kd.R_drewN | apply Kd.R_drew)); exact Kd.R_mono (Kd.R_far (p := ⟨gb574, 2, none⟩) (Kd.R_far (p := ⟨gb574, 1, none⟩) (Kd.R_far (p := ⟨gb574, 0, none⟩) (Kd.R_types HO_15.out BK574.out (by decide)) (fun _ hk => hk.2) (.int .i64 t566)) (fun _ hk => hk.2) (.slice Ao57 t567.length co57)) (fun _ hk => hk.2) (.slice Ao58 t570.length co58)) (fun _ hk => trivial)) : p := h
theorem zr83 {p : Prop} (h : p := by (with_reducible repeat (first | apply Kd.R_alloc | apply Kd.R_drewN | apply Kd.R_drew)); exact Kd.R_mono (Kd.R_far (p := ⟨gb574, 2, none⟩) (Kd.R_far (p := ⟨gb574, 1, none⟩) (Kd.R_far (p := ⟨gb574, 0, none⟩) (Kd.R_types HO560.out BK574.out (by decide)) (fun _ hk => hk.2) (.int .i64 t566)) (fun _ hk => hk.2) (.slice Ao57 t567.length co57)) (fun _ hk => hk.2) (.slice Ao58 t570.length co58)) (fun _ hk => ⟨hk.1.1.1, ⟨hk.1.1.2, hk.1.2⟩⟩)) : p := h
theorem zr84 {p : Prop} (h : p := by (with_reducible repeat (first | apply Kd.R_alloc | apply Kd.R_drewN | apply Kd.R_drew)); exact Kd.R_mono (Kd.R_far (p := ⟨gb574, 2, none⟩) (Kd.R_far (p := ⟨gb574, 1, none⟩) (Kd.R_far (p := ⟨gb574, 0, none⟩) (Kd.R_types HO563.out BK574.out (by decide)) (fun _ hk => hk.2) (.int .i64 t566)) (fun _ hk => hk.2) (.slice Ao57 t567.length co57)) (fun _ hk => hk.2) (.slice Ao58 t570.length co58)) (fun _ hk => ⟨hk.1.1.1, ⟨hk.1.1.2, hk.1.2⟩⟩)) : p := h
theorem zr85 {p : Prop} (h : p := by (with_reducible repeat (first | apply Kd.R_alloc | apply Kd.R_drewN | apply Kd.R_drew)); exact Kd.R_mono (Kd.R_far (p := ⟨gb574, 2, none⟩) (Kd.R_far (p := ⟨gb574, 1, none⟩) (Kd.R_far (p := ⟨gb574, 0, none⟩) (Kd.R_types HO569.out BK574.out (by decide)) (fun _ hk => hk.2) (.int .i64 t566)) (fun _ hk => hk.2) (.slice Ao57 t567.length co57)) (fun _ hk => hk.2) (.slice Ao58 t570.length co58)) (fun _ hk => ⟨hk.1.1.2, ⟨hk.1.2, hk.1.1.1⟩⟩)) : p := h
theorem zr86 {p : Prop} (h : p := by (with_reducible repeat (first | apply Kd.R_alloc | apply Kd.R_drewN | apply Kd.R_drew)); exact Kd.R_mono (Kd.R_far (p := ⟨gb574, 2, none⟩) (Kd.R_far (p := ⟨gb574, 1, none⟩) (Kd.R_far (p := ⟨gb574, 0, none⟩) (Kd.R_types HO572.out BK574.out (by decide)) (fun _ hk => hk.2) (.int .i64 t566)) (fun _ hk => hk.2) (.slice Ao57 t567.length co57)) (fun _ hk => hk.2) (.slice Ao58 t570.length co58)) (fun _ hk => ⟨hk.1.1.2, ⟨hk.1.2, hk.1.1.1⟩⟩)) : p := h
theorem zr87 {p : Prop} (h : p := by (with_reducible repeat (first | refine blk_drewN ?_ _ | refine blk_drew ?_ | refine blk_alloc ?_ _)); refine blk_far ?_ NB565_574.out _; (with_reducible repeat (first | refine blk_drewN ?_ _ | refine blk_drew ?_ | refine blk_alloc ?_ _)); refine blk_far ?_ NB565_574.out _; (with_reducible repeat (first | refine blk_drewN ?_ _ | refine blk_drew ?_ | refine blk_alloc ?_ _)); refine blk_far ?_ NB565_574.out _; (with_reducible repeat (first | refine blk_drewN ?_ _ | refine blk_drew ?_ | refine blk_alloc ?_ _)); exact BK565.out) : p := h
theorem zr88 {p : Prop} (h : p := by (with_reducible repeat (first | refine blk_drewN ?_ _ | refine blk_drew ?_ | refine blk_alloc ?_ _)); refine blk_put (cs := #[.int .i64 t566, .slice Ao57 t567.length co57, .slice none 0 0]) ?_ 2 _ rfl; (with_reducible repeat (first | refine blk_drewN ?_ _ | refine blk_drew ?_ | refine blk_alloc ?_ _)); refine blk_put (cs := #[.int .i64 t566, .slice none 0 0, .slice none 0 0]) ?_ 1 _ rfl; (with_reducible repeat (first | refine blk_drewN ?_ _ | refine blk_drew ?_ | refine blk_alloc ?_ _)); refine blk_put (cs := #[.int .i64 0, .slice none 0 0, .slice none 0 0]) ?_ 0 _ rfl; (with_reducible repeat (first | refine blk_drewN ?_ _ | refine blk_drew ?_ | refine blk_alloc ?_ _)); exact BK574.out) : p := h
theorem zr89 {p : Prop} (h : p := by repeat (first | (with_reducible first | exact HB.out | apply below_alloc | apply pw_below_drewN | apply below_drew1 | refine below_set ?_ GE565.out | refine below_set ?_ GE574.out) | exact HB.out)) : p := h
theorem zr90 {p : Prop} (h : p := by have := HK1.out; have := HJ36.out; have := HJ44.out; first | omega | exact Nat.le_refl _) : p := h
theorem zr91 {p : Prop} (h : p := by (with_reducible repeat (first | apply Kd.R_alloc | apply Kd.R_drewN | apply Kd.R_drew)); exact HO_566001.out) : p := h
theorem zr92 {p : Prop} (h : p := by (with_reducible repeat (first | apply Kd.R_alloc | apply Kd.R_drewN | apply Kd.R_drew)); exact HO_566002.out) : p := h
theorem zr93 {p : Prop} (h : p := by (with_reducible repeat (first | apply Kd.R_alloc | apply Kd.R_drewN | apply Kd.R_drew)); exact HO_575001.out) : p := h
theorem zr94 {p : Prop} (h : p := by (with_reducible repeat (first | apply Kd.R_alloc | apply Kd.R_drewN | apply Kd.R_drew)); exact HO_575002.out) : p := h
theorem zr95 {p : Prop} (h : p := by (with_reducible repeat (first | refine blk_drewN ?_ _ | refine blk_drew ?_ | refine blk_alloc ?_ _)); exact BK565.out) : p := h
theorem zr96 {p : Prop} (h : p := by (with_reducible repeat (first | refine blk_drewN ?_ _ | refine blk_drew ?_ | refine blk_alloc ?_ _)); exact BK574.out) : p := h
end Go.Proofs.YtkfejgdeknemaaaGreatDoor.Z
section
open Go.Proofs.YtkfejgdeknemaaaGreatDoor.Z
namespace Go.Proofs.YtkfejgdeknemaaaGreatDoor.Fw
open Go.RowKit Go.Proofs.YtkfejgdeknemaaaGreatDoorW.PrintWords Go.Proofs.YtkfejgdeknemaaaGreatDoorW.PrintLast Go.Proofs.YtkfejgdeknemaaaGreatDoorW.PrintMore
attribute [local go_sem] max2_int min2_int max_two min_two max_three min_three max_four min_four
set_option linter.unusedVariables false
set_option linter.unusedSimpArgs false
mutual
def dialtonelaw22_ForwardHides.l0 : Nat → Int → Int → Int → Bool → List (S41) → List (S37) → Int → List (S37) → Bool → Int → Option (Bool)
 | 0, _, _, _, _, _, _, _, _, _, _ => none
 | k + 1, x2, x4, x5, x13, x14, x15, x16, x17, x18, x19 => if x19 < (x15.length : Int) then (if 0 ≤ x19 then (if ((rd_T37 x15 x19).f0) > x16 then (dialtonelaw22_ForwardHides.j1 k x2 x4 x5 x13 x14 x15 x16 x17 x18 x19 (!x18)) else (dialtonelaw22_ForwardHides.j1 k x2 x4 x5 x13 x14 x15 x16 x17 x18 x19 false)) else (none)) else (if x18 = true then (dialtonelaw22_ForwardHides.j2 k x2 x4 x13 x14 x15 x16 x17) else ((dialtonelaw22_pick.f x5 3).bind fun t553 => (if x17.length < 8796093022208 then (dialtonelaw22_ForwardHides.j2 k x2 x4 x13 x14 x15 x16 (x17 ++ [(⟨x16, wrap64 (2 + t553)⟩ : S37)])) else (none))))
def dialtonelaw22_ForwardHides.j1 : Nat → Int → Int → Int → Bool → List (S41) → List (S37) → Int → List (S37) → Bool → Int → Bool → Option (Bool)
 | 0, _, _, _, _, _, _, _, _, _, _, _ => none
 | k + 1, x2, x4, x5, x13, x14, x15, x16, x17, x18, x19, x61 => if x61 = true then ((dialtonelaw22_pick.f x5 3).bind fun t539 => (if x17.length < 8796093022208 then ((some (x17 ++ [(⟨x16, wrap64 (2 + t539)⟩ : S37)] : List (S37))).bind fun y540 => (if 0 ≤ x19 then (if x19 < (x15.length : Int) then (if ((rd_T37 x15 x19).f0) = x16 then (dialtonelaw22_ForwardHides.l0 k x2 x4 x5 x13 x14 x15 x16 y540 true (wrap64 (x19 + 1))) else (if y540.length < 8796093022208 then (dialtonelaw22_ForwardHides.l0 k x2 x4 x5 x13 x14 x15 x16 (y540 ++ [(⟨(rd_T37 x15 x19).f0, (rd_T37 x15 x19).f1⟩ : S37)]) true (wrap64 (x19 + 1))) else (none))) else (none)) else (none))) else (none))) else (if 0 ≤ x19 then (if x19 < (x15.length : Int) then (if ((rd_T37 x15 x19).f0) = x16 then (dialtonelaw22_ForwardHides.l0 k x2 x4 x5 x13 x14 x15 x16 x17 x18 (wrap64 (x19 + 1))) else (if x17.length < 8796093022208 then (dialtonelaw22_ForwardHides.l0 k x2 x4 x5 x13 x14 x15 x16 (x17 ++ [(⟨(rd_T37 x15 x19).f0, (rd_T37 x15 x19).f1⟩ : S37)]) x18 (wrap64 (x19 + 1))) else (none))) else (none)) else (none))
def dialtonelaw22_ForwardHides.j2 : Nat → Int → Int → Bool → List (S41) → List (S37) → Int → List (S37) → Option (Bool)
 | 0, _, _, _, _, _, _, _ => none
 | k + 1, x2, x4, x13, x14, x15, x16, x17 => (forward_Resolve.f x14 x15 x2 x4).bind fun bt557 => ((forward_Resolve.f x14 x17 x2 x4).bind fun bt566 => (if bt557.2.2.2 = 0 then (dialtonelaw22_ForwardHides.j3 k x4 x13 x14 x15 x16 (bt566.2.2.2 != 0) bt557.1 bt557.2.1 bt557.2.2.1 bt566.1 bt566.2.1 bt566.2.2.1) else (dialtonelaw22_ForwardHides.j3 k x4 x13 x14 x15 x16 true bt557.1 bt557.2.1 bt557.2.2.1 bt566.1 bt566.2.1 bt566.2.2.1)))
def dialtonelaw22_ForwardHides.j3 : Nat → Int → Bool → List (S41) → List (S37) → Int → Bool → Int → List Int → List Int → Int → List Int → List Int → Option (Bool)
 | 0, _, _, _, _, _, _, _, _, _, _, _, _ => none
 | k + 1, x4, x13, x14, x15, x16, x115, x566000, x566001, x566002, x575000, x575001, x575002 => if x115 = true then (none) else ((dialtonelaw22_next.f k x14 x16 x4).bind fun t575 => (if t575 ≥ 0 then ((dialtoneref22_Same.f k x566000 x566001 x566002 x575000 x575001 x575002).bind fun t576 => (dialtonelaw22_ForwardHides.j4 k x4 x13 x14 x15 (!t576) x566000 x566001 x566002)) else (dialtonelaw22_ForwardHides.j4 k x4 x13 x14 x15 false x566000 x566001 x566002)))
def dialtonelaw22_ForwardHides.j4 : Nat → Int → Bool → List (S41) → List (S37) → Bool → Int → List Int → List Int → Option (Bool)
 | 0, _, _, _, _, _, _, _, _ => none
 | k + 1, x4, x13, x14, x15, x126, x566000, x566001, x566002 => if x126 = true then (none) else (if x566000 ≥ 5 then (some x13) else (dialtonelaw22_ForwardHides.l1 k x4 x13 x14 x15 0 x566000 x566001 x566002))
def dialtonelaw22_ForwardHides.l1 : Nat → Int → Bool → List (S41) → List (S37) → Int → Int → List Int → List Int → Option (Bool)
 | 0, _, _, _, _, _, _, _, _ => none
 | k + 1, x4, x13, x14, x15, x24, x566000, x566001, x566002 => if x24 < (x566001.length : Int) then (if 0 ≤ x24 then ((forward_Resolve.f x14 x15 (rd x566001 x24) x4).bind fun bt578 => (if bt578.2.2.2 = 0 then (if bt578.1 = x566000 then (if x24 ≤ (x566001.length : Int) then ((dialtoneref22_Ints.f k bt578.2.1 (x566001.drop (x24 : Int).toNat)).bind fun t591 => (if t591 = true then (if x24 ≤ (x566002.length : Int) then ((dialtoneref22_Ints.f k bt578.2.2.1 (x566002.drop (x24 : Int).toNat)).bind fun t596 => (if t596 = true then (dialtonelaw22_ForwardHides.l1 k x4 x13 x14 x15 (wrap64 (x24 + 1)) x566000 x566001 x566002) else (none))) else (none)) else (none))) else (none)) else (none)) else (none))) else (none)) else (some x13)
end
def dialtonelaw22_ForwardHides.f (k : Nat) (l0 : List (S66)) (a1 : Int) (a2 : Int) (a3 : Int) (a4 : Int) (a5 : Int) : Option (Bool) := (dialtonelaw22_sane.f).bind fun t528 => (if t528 = true then ((dialtoneref22_Made.f k l0).bind fun t529 => ((dialtoneref22_Conditions.f k a1).bind fun t532 => ((dialtonelaw22_pick.f a2 9).bind fun t535 => ((dialtonelaw22_pick.f a3 8).bind fun t536 => ((dialtonelaw22_pick.f a4 120).bind fun t537 => (dialtonelaw22_ForwardHides.l0 k (wrap64 (10 + t535)) t537 a5 t528 t529 t532 (wrap64 (10 + t536)) ([] : List (S37)) ((Int.tmod a5 5) == 0) 0)))))) else (none))
theorem dialtonelaw22_ForwardHides.mono_l : ∀ k, (∀ y0 y1 y2 y3 y4 y5 y6 y7 y8 y9, LeO (dialtonelaw22_ForwardHides.l0 k y0 y1 y2 y3 y4 y5 y6 y7 y8 y9) (dialtonelaw22_ForwardHides.l0 (k + 1) y0 y1 y2 y3 y4 y5 y6 y7 y8 y9)) ∧ (∀ y0 y1 y2 y3 y4 y5 y6 y7 y8 y9 y10, LeO (dialtonelaw22_ForwardHides.j1 k y0 y1 y2 y3 y4 y5 y6 y7 y8 y9 y10) (dialtonelaw22_ForwardHides.j1 (k + 1) y0 y1 y2 y3 y4 y5 y6 y7 y8 y9 y10)) ∧ (∀ y0 y1 y2 y3 y4 y5 y6, LeO (dialtonelaw22_ForwardHides.j2 k y0 y1 y2 y3 y4 y5 y6) (dialtonelaw22_ForwardHides.j2 (k + 1) y0 y1 y2 y3 y4 y5 y6)) ∧ (∀ y0 y1 y2 y3 y4 y5 y6 y7 y8 y9 y10 y11, LeO (dialtonelaw22_ForwardHides.j3 k y0 y1 y2 y3 y4 y5 y6 y7 y8 y9 y10 y11) (dialtonelaw22_ForwardHides.j3 (k + 1) y0 y1 y2 y3 y4 y5 y6 y7 y8 y9 y10 y11)) ∧ (∀ y0 y1 y2 y3 y4 y5 y6 y7, LeO (dialtonelaw22_ForwardHides.j4 k y0 y1 y2 y3 y4 y5 y6 y7) (dialtonelaw22_ForwardHides.j4 (k + 1) y0 y1 y2 y3 y4 y5 y6 y7)) ∧ (∀ y0 y1 y2 y3 y4 y5 y6 y7, LeO (dialtonelaw22_ForwardHides.l1 k y0 y1 y2 y3 y4 y5 y6 y7) (dialtonelaw22_ForwardHides.l1 (k + 1) y0 y1 y2 y3 y4 y5 y6 y7))
 | 0 => ⟨fun _ _ _ _ _ _ _ _ _ _ r h => by simp [dialtonelaw22_ForwardHides.l0] at h, fun _ _ _ _ _ _ _ _ _ _ _ r h => by simp [dialtonelaw22_ForwardHides.j1] at h, fun _ _ _ _ _ _ _ r h => by simp [dialtonelaw22_ForwardHides.j2] at h, fun _ _ _ _ _ _ _ _ _ _ _ _ r h => by simp [dialtonelaw22_ForwardHides.j3] at h, fun _ _ _ _ _ _ _ _ r h => by simp [dialtonelaw22_ForwardHides.j4] at h, fun _ _ _ _ _ _ _ _ r h => by simp [dialtonelaw22_ForwardHides.l1] at h⟩
 | k + 1 => by
  obtain ⟨ih0, ih1, ih2, ih3, ih4, ih5⟩ := dialtonelaw22_ForwardHides.mono_l k
  refine ⟨?_, ?_, ?_, ?_, ?_, ?_⟩
  ·intro y0 y1 y2 y3 y4 y5 y6 y7 y8 y9
   unfold dialtonelaw22_ForwardHides.l0
   repeat' first
   | (with_reducible exact ih0 _ _ _ _ _ _ _ _ _ _)
   | (with_reducible exact ih1 _ _ _ _ _ _ _ _ _ _ _)
   | (with_reducible exact ih2 _ _ _ _ _ _ _)
   | (with_reducible exact ih3 _ _ _ _ _ _ _ _ _ _ _ _)
   | (with_reducible exact ih4 _ _ _ _ _ _ _ _)
   | (with_reducible exact ih5 _ _ _ _ _ _ _ _)
   | (with_reducible exact dialtonelaw22_next.mono _ _ _ _)
   | (with_reducible exact dialtoneref22_Conditions.mono _ _)
   | (with_reducible exact dialtoneref22_Ints.mono _ _ _)
   | (with_reducible exact dialtoneref22_Made.mono _ _)
   | (with_reducible exact dialtoneref22_Same.mono _ _ _ _ _ _ _)
   | (with_reducible exact LeO.refl _)
   | (with_reducible exact LeO.none _)
   | (with_reducible refine LeO.ite ?_ ?_)
   | (with_reducible refine LeO.bind ?_ (fun _ => ?_))
   | exact ih0 _ _ _ _ _ _ _ _ _ _
   | exact ih1 _ _ _ _ _ _ _ _ _ _ _
   | exact ih2 _ _ _ _ _ _ _
   | exact ih3 _ _ _ _ _ _ _ _ _ _ _ _
   | exact ih4 _ _ _ _ _ _ _ _
   | exact ih5 _ _ _ _ _ _ _ _
   | exact dialtonelaw22_next.mono _ _ _ _
   | exact dialtoneref22_Conditions.mono _ _
   | exact dialtoneref22_Ints.mono _ _ _
   | exact dialtoneref22_Made.mono _ _
   | exact dialtoneref22_Same.mono _ _ _ _ _ _ _
   | exact LeO.none _
   | refine LeO.ite ?_ ?_
   | refine LeO.bind ?_ (fun _ => ?_)
  ·intro y0 y1 y2 y3 y4 y5 y6 y7 y8 y9 y10
   unfold dialtonelaw22_ForwardHides.j1
   repeat' first
   | (with_reducible exact ih0 _ _ _ _ _ _ _ _ _ _)
   | (with_reducible exact ih1 _ _ _ _ _ _ _ _ _ _ _)
   | (with_reducible exact ih2 _ _ _ _ _ _ _)
   | (with_reducible exact ih3 _ _ _ _ _ _ _ _ _ _ _ _)
   | (with_reducible exact ih4 _ _ _ _ _ _ _ _)
   | (with_reducible exact ih5 _ _ _ _ _ _ _ _)
   | (with_reducible exact dialtonelaw22_next.mono _ _ _ _)
   | (with_reducible exact dialtoneref22_Conditions.mono _ _)
   | (with_reducible exact dialtoneref22_Ints.mono _ _ _)
   | (with_reducible exact dialtoneref22_Made.mono _ _)
   | (with_reducible exact dialtoneref22_Same.mono _ _ _ _ _ _ _)
   | (with_reducible exact LeO.refl _)
   | (with_reducible exact LeO.none _)
   | (with_reducible refine LeO.ite ?_ ?_)
   | (with_reducible refine LeO.bind ?_ (fun _ => ?_))
   | exact ih0 _ _ _ _ _ _ _ _ _ _
   | exact ih1 _ _ _ _ _ _ _ _ _ _ _
   | exact ih2 _ _ _ _ _ _ _
   | exact ih3 _ _ _ _ _ _ _ _ _ _ _ _
   | exact ih4 _ _ _ _ _ _ _ _
   | exact ih5 _ _ _ _ _ _ _ _
   | exact dialtonelaw22_next.mono _ _ _ _
   | exact dialtoneref22_Conditions.mono _ _
   | exact dialtoneref22_Ints.mono _ _ _
   | exact dialtoneref22_Made.mono _ _
   | exact dialtoneref22_Same.mono _ _ _ _ _ _ _
   | exact LeO.none _
   | refine LeO.ite ?_ ?_
   | refine LeO.bind ?_ (fun _ => ?_)
  ·intro y0 y1 y2 y3 y4 y5 y6
   unfold dialtonelaw22_ForwardHides.j2
   repeat' first
   | (with_reducible exact ih0 _ _ _ _ _ _ _ _ _ _)
   | (with_reducible exact ih1 _ _ _ _ _ _ _ _ _ _ _)
   | (with_reducible exact ih2 _ _ _ _ _ _ _)
   | (with_reducible exact ih3 _ _ _ _ _ _ _ _ _ _ _ _)
   | (with_reducible exact ih4 _ _ _ _ _ _ _ _)
   | (with_reducible exact ih5 _ _ _ _ _ _ _ _)
   | (with_reducible exact dialtonelaw22_next.mono _ _ _ _)
   | (with_reducible exact dialtoneref22_Conditions.mono _ _)
   | (with_reducible exact dialtoneref22_Ints.mono _ _ _)
   | (with_reducible exact dialtoneref22_Made.mono _ _)
   | (with_reducible exact dialtoneref22_Same.mono _ _ _ _ _ _ _)
   | (with_reducible exact LeO.refl _)
   | (with_reducible exact LeO.none _)
   | (with_reducible refine LeO.ite ?_ ?_)
   | (with_reducible refine LeO.bind ?_ (fun _ => ?_))
   | exact ih0 _ _ _ _ _ _ _ _ _ _
   | exact ih1 _ _ _ _ _ _ _ _ _ _ _
   | exact ih2 _ _ _ _ _ _ _
   | exact ih3 _ _ _ _ _ _ _ _ _ _ _ _
   | exact ih4 _ _ _ _ _ _ _ _
   | exact ih5 _ _ _ _ _ _ _ _
   | exact dialtonelaw22_next.mono _ _ _ _
   | exact dialtoneref22_Conditions.mono _ _
   | exact dialtoneref22_Ints.mono _ _ _
   | exact dialtoneref22_Made.mono _ _
   | exact dialtoneref22_Same.mono _ _ _ _ _ _ _
   | exact LeO.none _
   | refine LeO.ite ?_ ?_
   | refine LeO.bind ?_ (fun _ => ?_)
  ·intro y0 y1 y2 y3 y4 y5 y6 y7 y8 y9 y10 y11
   unfold dialtonelaw22_ForwardHides.j3
   repeat' first
   | (with_reducible exact ih0 _ _ _ _ _ _ _ _ _ _)
   | (with_reducible exact ih1 _ _ _ _ _ _ _ _ _ _ _)
   | (with_reducible exact ih2 _ _ _ _ _ _ _)
   | (with_reducible exact ih3 _ _ _ _ _ _ _ _ _ _ _ _)
   | (with_reducible exact ih4 _ _ _ _ _ _ _ _)
   | (with_reducible exact ih5 _ _ _ _ _ _ _ _)
   | (with_reducible exact dialtonelaw22_next.mono _ _ _ _)
   | (with_reducible exact dialtoneref22_Conditions.mono _ _)
   | (with_reducible exact dialtoneref22_Ints.mono _ _ _)
   | (with_reducible exact dialtoneref22_Made.mono _ _)
   | (with_reducible exact dialtoneref22_Same.mono _ _ _ _ _ _ _)
   | (with_reducible exact LeO.refl _)
   | (with_reducible exact LeO.none _)
   | (with_reducible refine LeO.ite ?_ ?_)
   | (with_reducible refine LeO.bind ?_ (fun _ => ?_))
   | exact ih0 _ _ _ _ _ _ _ _ _ _
   | exact ih1 _ _ _ _ _ _ _ _ _ _ _
   | exact ih2 _ _ _ _ _ _ _
   | exact ih3 _ _ _ _ _ _ _ _ _ _ _ _
   | exact ih4 _ _ _ _ _ _ _ _
   | exact ih5 _ _ _ _ _ _ _ _
   | exact dialtonelaw22_next.mono _ _ _ _
   | exact dialtoneref22_Conditions.mono _ _
   | exact dialtoneref22_Ints.mono _ _ _
   | exact dialtoneref22_Made.mono _ _
   | exact dialtoneref22_Same.mono _ _ _ _ _ _ _
   | exact LeO.none _
   | refine LeO.ite ?_ ?_
   | refine LeO.bind ?_ (fun _ => ?_)
  ·intro y0 y1 y2 y3 y4 y5 y6 y7
   unfold dialtonelaw22_ForwardHides.j4
   repeat' first
   | (with_reducible exact ih0 _ _ _ _ _ _ _ _ _ _)
   | (with_reducible exact ih1 _ _ _ _ _ _ _ _ _ _ _)
   | (with_reducible exact ih2 _ _ _ _ _ _ _)
   | (with_reducible exact ih3 _ _ _ _ _ _ _ _ _ _ _ _)
   | (with_reducible exact ih4 _ _ _ _ _ _ _ _)
   | (with_reducible exact ih5 _ _ _ _ _ _ _ _)
   | (with_reducible exact dialtonelaw22_next.mono _ _ _ _)
   | (with_reducible exact dialtoneref22_Conditions.mono _ _)
   | (with_reducible exact dialtoneref22_Ints.mono _ _ _)
   | (with_reducible exact dialtoneref22_Made.mono _ _)
   | (with_reducible exact dialtoneref22_Same.mono _ _ _ _ _ _ _)
   | (with_reducible exact LeO.refl _)
   | (with_reducible exact LeO.none _)
   | (with_reducible refine LeO.ite ?_ ?_)
   | (with_reducible refine LeO.bind ?_ (fun _ => ?_))
   | exact ih0 _ _ _ _ _ _ _ _ _ _
   | exact ih1 _ _ _ _ _ _ _ _ _ _ _
   | exact ih2 _ _ _ _ _ _ _
   | exact ih3 _ _ _ _ _ _ _ _ _ _ _ _
   | exact ih4 _ _ _ _ _ _ _ _
   | exact ih5 _ _ _ _ _ _ _ _
   | exact dialtonelaw22_next.mono _ _ _ _
   | exact dialtoneref22_Conditions.mono _ _
   | exact dialtoneref22_Ints.mono _ _ _
   | exact dialtoneref22_Made.mono _ _
   | exact dialtoneref22_Same.mono _ _ _ _ _ _ _
   | exact LeO.none _
   | refine LeO.ite ?_ ?_
   | refine LeO.bind ?_ (fun _ => ?_)
  ·intro y0 y1 y2 y3 y4 y5 y6 y7
   unfold dialtonelaw22_ForwardHides.l1
   repeat' first
   | (with_reducible exact ih0 _ _ _ _ _ _ _ _ _ _)
   | (with_reducible exact ih1 _ _ _ _ _ _ _ _ _ _ _)
   | (with_reducible exact ih2 _ _ _ _ _ _ _)
   | (with_reducible exact ih3 _ _ _ _ _ _ _ _ _ _ _ _)
   | (with_reducible exact ih4 _ _ _ _ _ _ _ _)
   | (with_reducible exact ih5 _ _ _ _ _ _ _ _)
   | (with_reducible exact dialtonelaw22_next.mono _ _ _ _)
   | (with_reducible exact dialtoneref22_Conditions.mono _ _)
   | (with_reducible exact dialtoneref22_Ints.mono _ _ _)
   | (with_reducible exact dialtoneref22_Made.mono _ _)
   | (with_reducible exact dialtoneref22_Same.mono _ _ _ _ _ _ _)
   | (with_reducible exact LeO.refl _)
   | (with_reducible exact LeO.none _)
   | (with_reducible refine LeO.ite ?_ ?_)
   | (with_reducible refine LeO.bind ?_ (fun _ => ?_))
   | exact ih0 _ _ _ _ _ _ _ _ _ _
   | exact ih1 _ _ _ _ _ _ _ _ _ _ _
   | exact ih2 _ _ _ _ _ _ _
   | exact ih3 _ _ _ _ _ _ _ _ _ _ _ _
   | exact ih4 _ _ _ _ _ _ _ _
   | exact ih5 _ _ _ _ _ _ _ _
   | exact dialtonelaw22_next.mono _ _ _ _
   | exact dialtoneref22_Conditions.mono _ _
   | exact dialtoneref22_Ints.mono _ _ _
   | exact dialtoneref22_Made.mono _ _
   | exact dialtoneref22_Same.mono _ _ _ _ _ _ _
   | exact LeO.none _
   | refine LeO.ite ?_ ?_
   | refine LeO.bind ?_ (fun _ => ?_)
theorem dialtonelaw22_ForwardHides.mono : ∀ a0 a1 a2 a3 a4 a5 k, LeO (dialtonelaw22_ForwardHides.f k a0 a1 a2 a3 a4 a5) (dialtonelaw22_ForwardHides.f (k + 1) a0 a1 a2 a3 a4 a5) := by
 intro a0 a1 a2 a3 a4 a5 k
 obtain ⟨ih0, ih1, ih2, ih3, ih4, ih5⟩ := dialtonelaw22_ForwardHides.mono_l k
 unfold dialtonelaw22_ForwardHides.f
 repeat' first
  | (with_reducible exact ih0 _ _ _ _ _ _ _ _ _ _)
  | (with_reducible exact ih1 _ _ _ _ _ _ _ _ _ _ _)
  | (with_reducible exact ih2 _ _ _ _ _ _ _)
  | (with_reducible exact ih3 _ _ _ _ _ _ _ _ _ _ _ _)
  | (with_reducible exact ih4 _ _ _ _ _ _ _ _)
  | (with_reducible exact ih5 _ _ _ _ _ _ _ _)
  | (with_reducible exact dialtonelaw22_next.mono _ _ _ _)
  | (with_reducible exact dialtoneref22_Conditions.mono _ _)
  | (with_reducible exact dialtoneref22_Ints.mono _ _ _)
  | (with_reducible exact dialtoneref22_Made.mono _ _)
  | (with_reducible exact dialtoneref22_Same.mono _ _ _ _ _ _ _)
  | (with_reducible exact LeO.refl _)
  | (with_reducible exact LeO.none _)
  | (with_reducible refine LeO.ite ?_ ?_)
  | (with_reducible refine LeO.bind ?_ (fun _ => ?_))
  | exact ih0 _ _ _ _ _ _ _ _ _ _
  | exact ih1 _ _ _ _ _ _ _ _ _ _ _
  | exact ih2 _ _ _ _ _ _ _
  | exact ih3 _ _ _ _ _ _ _ _ _ _ _ _
  | exact ih4 _ _ _ _ _ _ _ _
  | exact ih5 _ _ _ _ _ _ _ _
  | exact dialtonelaw22_next.mono _ _ _ _
  | exact dialtoneref22_Conditions.mono _ _
  | exact dialtoneref22_Ints.mono _ _ _
  | exact dialtoneref22_Made.mono _ _
  | exact dialtoneref22_Same.mono _ _ _ _ _ _ _
  | exact LeO.none _
  | refine LeO.ite ?_ ?_
  | refine LeO.bind ?_ (fun _ => ?_)
set_option maxHeartbeats 8000000 in
set_option maxRecDepth 100000 in
theorem dialtonelaw22_ForwardHides.calls (k : Nat) (A0 : Option Addr) (c0 : Nat) (l0 : List (S66)) (a1 : Int) (a2 : Int) (a3 : Int) (a4 : Int) (a5 : Int) (r : Bool) (w : World) (hr0 : Kd.C k66 w A0 l0.length l0) (hc0 : l0.length ≤ c0) (h : dialtonelaw22_ForwardHides.f k l0 a1 a2 a3 a4 a5 = some r) :
 Calls Tryz.prog 5 #[.slice A0 l0.length c0, .int .i64 a1, .int .i64 a2, .int .i64 a3, .int .i64 a4, .int .i64 a5] w fun e w' => e = .returned (.bool r) ∧ Below w.heap.size w w' := by
 have hu37 := Tryz.underlying37
 have hu31 := Tryz.underlying31
 have HR0 := Aside0.mk hr0
 have HC0 := Aside0.mk hc0
 clear hr0 hc0
 have HB := Aside0.mk (Below.refl w.heap.size w)
 have H : ((dialtonelaw22_sane.f).bind fun t528 => (if t528 = true then ((dialtoneref22_Made.f k l0).bind fun t529 => ((dialtoneref22_Conditions.f k a1).bind fun t532 => ((dialtonelaw22_pick.f a2 9).bind fun t535 => ((dialtonelaw22_pick.f a3 8).bind fun t536 => ((dialtonelaw22_pick.f a4 120).bind fun t537 => (dialtonelaw22_ForwardHides.l0 k (wrap64 (10 + t535)) t537 a5 t528 t529 t532 (wrap64 (10 + t536)) ([] : List (S37)) ((Int.tmod a5 5) == 0) 0)))))) else (none))) = some r := h
 clear h
 replace H := Option.bind_eq_some_iff.mp H
 obtain ⟨t528, A70, H⟩ := H
 try dsimp only at H
 have A7 := Aside0.mk A70
 clear A70
 by_cases c8 : t528 = true
 rotate_left
 ·replace c8 := Bool.eq_false_iff.mpr c8
  subst c8
  rw [if_neg (show ¬ (false = true) by decide)] at H
  exact absurd H (by simp)
 subst c8
 rw [if_pos rfl] at H
 replace H := Option.bind_eq_some_iff.mp H
 obtain ⟨t529, A90, H⟩ := H
 try dsimp only at H
 have A9 := Aside0.mk A90
 clear A90
 replace H := Option.bind_eq_some_iff.mp H
 obtain ⟨t532, A100, H⟩ := H
 try dsimp only at H
 have A10 := Aside0.mk A100
 clear A100
 replace H := Option.bind_eq_some_iff.mp H
 obtain ⟨t535, A110, H⟩ := H
 try dsimp only at H
 have A11 := Aside0.mk A110
 clear A110
 replace H := Option.bind_eq_some_iff.mp H
 obtain ⟨t536, A120, H⟩ := H
 try dsimp only at H
 have A12 := Aside0.mk A120
 clear A120
 replace H := Option.bind_eq_some_iff.mp H
 obtain ⟨t537, A130, H⟩ := H
 try dsimp only at H
 have A13 := Aside0.mk A130
 clear A130
 have H' := Aside0.mk H
 clear H
 go_enter Tryz.func5, Tryz.ntmps5
 go_wp2_with (first | (go_at_call 7; (with_reducible refine (dialtonelaw22_sane.calls  true _ A7.out).mono ?_); rintro e w14 ⟨rfl, hb⟩; replace HB := Aside0.mk (below_step (zW HB) hb); (try clear hb); (try clear hb2); (try clear hk); (try clear hi)) | (go_at_call 8; (with_reducible refine (dialtoneref22_Made.calls k _ _ l0 t529 _ ?side1 ?side2 A9.out).mono ?_); (case side1 => exact zq11); (case side2 => exact zq12); rintro e w15 ⟨v530, rfl, ho0, hb⟩; have HO531 := Aside0.mk (Kd.R_lower ho0 (below_size (zW HB))); replace HB := Aside0.mk (below_step (zW HB) hb); (try clear hb); (try clear hb2); (try clear hk); (try clear hi); (try clear ho0)) | (go_at_call 9; (with_reducible refine (dialtoneref22_Conditions.calls k a1 t532 _ A10.out).mono ?_); rintro e w16 ⟨v533, rfl, ho0, hb⟩; replace HO531 := Aside0.mk (Kd.R_below (zR HO531) hb); have HO534 := Aside0.mk (Kd.R_lower ho0 (below_size (zW HB))); replace HB := Aside0.mk (below_step (zW HB) hb); (try clear hb); (try clear hb2); (try clear hk); (try clear hi); (try clear ho0)) | (go_at_call 10; (with_reducible refine (dialtonelaw22_pick.calls a2 9 t535 _ A11.out).mono ?_); rintro e w' ⟨rfl, ⟨nd, rfl⟩⟩; (try first | exact ⟨rfl, _, World.drewN_drewN _ _ _⟩ | exact ⟨rfl, _, Eq.trans (World.drewN_drewN _ _ _) (congrArg (World.drewN _) (Nat.add_assoc _ _ _))⟩)) | (go_at_call 10; (with_reducible refine (dialtonelaw22_pick.calls a3 8 t536 _ A12.out).mono ?_); rintro e w' ⟨rfl, ⟨nd, rfl⟩⟩; (try first | exact ⟨rfl, _, World.drewN_drewN _ _ _⟩ | exact ⟨rfl, _, Eq.trans (World.drewN_drewN _ _ _) (congrArg (World.drewN _) (Nat.add_assoc _ _ _))⟩)) | (go_at_call 10; (with_reducible refine (dialtonelaw22_pick.calls a4 120 t537 _ A13.out).mono ?_); rintro e w' ⟨rfl, ⟨nd, rfl⟩⟩; (try first | exact ⟨rfl, _, World.drewN_drewN _ _ _⟩ | exact ⟨rfl, _, Eq.trans (World.drewN_drewN _ _ _) (congrArg (World.drewN _) (Nat.add_assoc _ _ _))⟩)))
 repeat (go_quiet (first | (go_at_call 7; (with_reducible refine (dialtonelaw22_sane.calls  true _ A7.out).mono ?_); rintro e w14 ⟨rfl, hb⟩; replace HB := Aside0.mk (below_step (zW HB) hb); (try clear hb); (try clear hb2); (try clear hk); (try clear hi)) | (go_at_call 8; (with_reducible refine (dialtoneref22_Made.calls k _ _ l0 t529 _ ?side1 ?side2 A9.out).mono ?_); (case side1 => exact zq11); (case side2 => exact zq12); rintro e w15 ⟨v530, rfl, ho0, hb⟩; have HO531 := Aside0.mk (Kd.R_lower ho0 (below_size (zW HB))); replace HB := Aside0.mk (below_step (zW HB) hb); (try clear hb); (try clear hb2); (try clear hk); (try clear hi); (try clear ho0)) | (go_at_call 9; (with_reducible refine (dialtoneref22_Conditions.calls k a1 t532 _ A10.out).mono ?_); rintro e w16 ⟨v533, rfl, ho0, hb⟩; replace HO531 := Aside0.mk (Kd.R_below (zR HO531) hb); have HO534 := Aside0.mk (Kd.R_lower ho0 (below_size (zW HB))); replace HB := Aside0.mk (below_step (zW HB) hb); (try clear hb); (try clear hb2); (try clear hk); (try clear hi); (try clear ho0)) | (go_at_call 10; (with_reducible refine (dialtonelaw22_pick.calls a2 9 t535 _ A11.out).mono ?_); rintro e w' ⟨rfl, ⟨nd, rfl⟩⟩; (try first | exact ⟨rfl, _, World.drewN_drewN _ _ _⟩ | exact ⟨rfl, _, Eq.trans (World.drewN_drewN _ _ _) (congrArg (World.drewN _) (Nat.add_assoc _ _ _))⟩)) | (go_at_call 10; (with_reducible refine (dialtonelaw22_pick.calls a3 8 t536 _ A12.out).mono ?_); rintro e w' ⟨rfl, ⟨nd, rfl⟩⟩; (try first | exact ⟨rfl, _, World.drewN_drewN _ _ _⟩ | exact ⟨rfl, _, Eq.trans (World.drewN_drewN _ _ _) (congrArg (World.drewN _) (Nat.add_assoc _ _ _))⟩)) | (go_at_call 10; (with_reducible refine (dialtonelaw22_pick.calls a4 120 t537 _ A13.out).mono ?_); rintro e w' ⟨rfl, ⟨nd, rfl⟩⟩; (try first | exact ⟨rfl, _, World.drewN_drewN _ _ _⟩ | exact ⟨rfl, _, Eq.trans (World.drewN_drewN _ _ _) (congrArg (World.drewN _) (Nat.add_assoc _ _ _))⟩))); try go_wp2_with (first | (go_at_call 7; (with_reducible refine (dialtonelaw22_sane.calls  true _ A7.out).mono ?_); rintro e w14 ⟨rfl, hb⟩; replace HB := Aside0.mk (below_step (zW HB) hb); (try clear hb); (try clear hb2); (try clear hk); (try clear hi)) | (go_at_call 8; (with_reducible refine (dialtoneref22_Made.calls k _ _ l0 t529 _ ?side1 ?side2 A9.out).mono ?_); (case side1 => exact zq11); (case side2 => exact zq12); rintro e w15 ⟨v530, rfl, ho0, hb⟩; have HO531 := Aside0.mk (Kd.R_lower ho0 (below_size (zW HB))); replace HB := Aside0.mk (below_step (zW HB) hb); (try clear hb); (try clear hb2); (try clear hk); (try clear hi); (try clear ho0)) | (go_at_call 9; (with_reducible refine (dialtoneref22_Conditions.calls k a1 t532 _ A10.out).mono ?_); rintro e w16 ⟨v533, rfl, ho0, hb⟩; replace HO531 := Aside0.mk (Kd.R_below (zR HO531) hb); have HO534 := Aside0.mk (Kd.R_lower ho0 (below_size (zW HB))); replace HB := Aside0.mk (below_step (zW HB) hb); (try clear hb); (try clear hb2); (try clear hk); (try clear hi); (try clear ho0)) | (go_at_call 10; (with_reducible refine (dialtonelaw22_pick.calls a2 9 t535 _ A11.out).mono ?_); rintro e w' ⟨rfl, ⟨nd, rfl⟩⟩; (try first | exact ⟨rfl, _, World.drewN_drewN _ _ _⟩ | exact ⟨rfl, _, Eq.trans (World.drewN_drewN _ _ _) (congrArg (World.drewN _) (Nat.add_assoc _ _ _))⟩)) | (go_at_call 10; (with_reducible refine (dialtonelaw22_pick.calls a3 8 t536 _ A12.out).mono ?_); rintro e w' ⟨rfl, ⟨nd, rfl⟩⟩; (try first | exact ⟨rfl, _, World.drewN_drewN _ _ _⟩ | exact ⟨rfl, _, Eq.trans (World.drewN_drewN _ _ _) (congrArg (World.drewN _) (Nat.add_assoc _ _ _))⟩)) | (go_at_call 10; (with_reducible refine (dialtonelaw22_pick.calls a4 120 t537 _ A13.out).mono ?_); rintro e w' ⟨rfl, ⟨nd, rfl⟩⟩; (try first | exact ⟨rfl, _, World.drewN_drewN _ _ _⟩ | exact ⟨rfl, _, Eq.trans (World.drewN_drewN _ _ _) (congrArg (World.drewN _) (Nat.add_assoc _ _ _))⟩))))
 go_loopg [17, 18, 19] k (fun kq v17 v18 v19 w' => ∃ (x17_1 : List (S37)) (x18_1 : Bool) (x19_1 : Int), v18 = .bool x18_1 ∧ v19 = .int .i64 x19_1 ∧ Aside0 (dialtonelaw22_ForwardHides.l0 kq (wrap64 (10 + t535)) t537 a5 true t529 t532 (wrap64 (10 + t536)) x17_1 x18_1 x19_1 = some r) ∧ Aside0 (kq ≤ k) ∧ Aside0 (Kd.R k41 41 w' w.heap.size (fun _ => True) v530 t529) ∧ Aside0 (Kd.R k37 37 w' w.heap.size (fun k_ => some k_ ≠ (v17 : Value).ownBlock) v533 t532) ∧ Aside0 (Kd.R k37 37 w' w.heap.size (fun k_ => some k_ ≠ (v533 : Value).ownBlock) v17 x17_1) ∧ Aside0 (Below w.heap.size w w'))
 case atStart => exact ⟨(([] : List (S37))), (((Int.tmod a5 5) == 0)), (0), (zq2), (zq2), H', ⟨Nat.le_refl _⟩, ⟨by (with_reducible repeat (first | apply Kd.R_alloc | apply Kd.R_drewN | apply Kd.R_drew)); exact HO531.out⟩, ⟨by (with_reducible repeat (first | apply Kd.R_alloc | apply Kd.R_drewN | apply Kd.R_drew)); exact Kd.R_mono HO534.out (fun _ hk => (by simp [Value.ownBlock]))⟩, ⟨zq88⟩, ⟨zq18⟩⟩
 case round =>
  clear H'
  try clear p2
  try clear c5
  try clear p6
  try clear c8
  obtain ⟨x17_1, x18_1, x19_1, rfl, rfl, HA, HK1, HO_14, HO_15, HO_17, HB⟩ := hrel
  cases gk with
  | zero => exact absurd HA.out (by simp [dialtonelaw22_ForwardHides.l0])
  | succ k1 =>
   have H := HA.out
   clear HA
   simp only [dialtonelaw22_ForwardHides.l0] at H
   by_cases c17 : x19_1 < (t532.length : Int)
   ·rw [if_pos c17] at H
    have c17b0 : decide (x19_1 < (t532.length : Int)) = true := decide_eq_true c17
    clear c17
    have HC18 := Aside0.mk H
    clear H
    obtain ⟨Ao19, co19, eo19⟩ := Kd.R_slice HO_15.out
    subst eo19
    go_upto_region 14 with (fail)
    repeat (go_quiet (fail); go_upto_region 14 with (fail))
    go_cut [61] (fun v61 wc => ∃ (kq : Nat) (x61_17 : Bool), v61 = .bool x61_17 ∧ Aside0 (dialtonelaw22_ForwardHides.j1 kq (wrap64 (10 + t535)) t537 a5 true t529 t532 (wrap64 (10 + t536)) x17_1 x18_1 x19_1 x61_17 = some r) ∧ Aside0 (kq ≤ k1) ∧ Aside0 (Kd.R k41 41 wc w.heap.size (fun _ => True) v530 t529) ∧ Aside0 (Kd.R k37 37 wc w.heap.size (fun k_ => some k_ ≠ (u17 : Value).ownBlock) (.slice Ao19 t532.length co19) t532) ∧ Aside0 (Kd.R k37 37 wc w.heap.size (fun k_ => some k_ ≠ ((.slice Ao19 t532.length co19) : Value).ownBlock) u17 x17_1) ∧ Aside0 (Below w.heap.size w wc))
    case first =>
     have H := HC18.out
     clear HC18
     by_cases c20 : 0 ≤ x19_1
     rotate_left
     ·rw [if_neg c20] at H
      exact absurd H (by simp)
     rw [if_pos c20] at H
     have c20b0 : decide (0 ≤ x19_1) = true := decide_eq_true c20
     clear c20
     (first | rw [c20b0] | (simp only [i64_w, i32_w]; rw [c20b0]) | skip)
     by_cases c21 : ((rd_T37 t532 x19_1).f0) > (wrap64 (10 + t536))
     ·rw [if_pos c21] at H
      have c21b0 : decide ((wrap64 (10 + t536)) < ((rd_T37 t532 x19_1).f0)) = true := decide_eq_true c21
      clear c21
      have H' := Aside0.mk H
      clear H
      have p538 : 0 ≤ (x19_1 : Int) := of_decide_eq_true (zq9)
      have q538 : x19_1 < (t532.length : Int) := of_decide_eq_true (zq9)
      obtain ⟨ad538, e538, hx538_0, hx538_1⟩ := at_T37 (Kd.R_reads' HO_15.out).2.2 x19_1 p538 q538
      cases e538
      replace p538 := eq_true p538
      replace q538 := eq_true q538
      go_wp2
      repeat (go_quiet (fail); try go_wp2)
      go_meet
      case rel => exact ⟨_, (!x18_1), (zq2), H', ⟨zr74⟩, ⟨zr75⟩, ⟨zr76⟩, ⟨zr77⟩, ⟨zq18⟩⟩
     rw [if_neg c21] at H
     have c21b0 : decide ((wrap64 (10 + t536)) < ((rd_T37 t532 x19_1).f0)) = false := decide_eq_false c21
     clear c21
     have H' := Aside0.mk H
     clear H
     have p538 : 0 ≤ (x19_1 : Int) := of_decide_eq_true (zq9)
     have q538 : x19_1 < (t532.length : Int) := of_decide_eq_true (zq9)
     obtain ⟨ad538, e538, hx538_0, hx538_1⟩ := at_T37 (Kd.R_reads' HO_15.out).2.2 x19_1 p538 q538
     cases e538
     replace p538 := eq_true p538
     replace q538 := eq_true q538
     go_wp2
     repeat (go_quiet (fail); try go_wp2)
     go_meet
     case rel => exact ⟨_, (false), (zq2), H', ⟨zr74⟩, ⟨zr75⟩, ⟨zr76⟩, ⟨zr77⟩, ⟨zq18⟩⟩
    case rest =>
     clear HC18
     try clear c1
     try clear c2
     try clear p2
     try clear c5
     try clear p5
     try clear q5
     try clear hx5
     try clear p6
     try clear c8
     try clear c17
     try clear c17b0
     try clear c20
     try clear c20b0
     try clear c21
     try clear c21b0
     try clear hx538_0
     try clear hx538_1
     try clear p2
     try clear p538
     try clear p6
     try clear q538
     obtain ⟨kq, x61_17, rfl, HA, HJ17, HO_14, HO_15, HO_17, HB⟩ := hcut
     cases kq with
     | zero => exact absurd HA.out (by simp [dialtonelaw22_ForwardHides.j1])
     | succ kj17 =>
      have H := HA.out
      clear HA
      simp only [dialtonelaw22_ForwardHides.j1] at H
      by_cases c22 : x61_17 = true
      rotate_left
      ·replace c22 := Bool.eq_false_iff.mpr c22
       subst c22
       rw [if_neg (show ¬ (false = true) by decide)] at H
       by_cases c32 : 0 ≤ x19_1
       rotate_left
       ·rw [if_neg c32] at H
        exact absurd H (by simp)
       rw [if_pos c32] at H
       have c32b0 : decide (0 ≤ x19_1) = true := decide_eq_true c32
       clear c32
       by_cases c33 : x19_1 < (t532.length : Int)
       rotate_left
       ·rw [if_neg c33] at H
        exact absurd H (by simp)
       rw [if_pos c33] at H
       have c33b0 : decide (x19_1 < (t532.length : Int)) = true := decide_eq_true c33
       clear c33
       by_cases c34 : ((rd_T37 t532 x19_1).f0) = (wrap64 (10 + t536))
       ·rw [if_pos c34] at H
        have c34b0 : (((rd_T37 t532 x19_1).f0) == (wrap64 (10 + t536))) = true := beq_iff_eq.mpr c34
        have c34b1 : (((rd_T37 t532 x19_1).f0) != (wrap64 (10 + t536))) = false := bne_eq_false_iff_eq.mpr c34
        clear c34
        have H' := Aside0.mk H
        clear H
        have p548 : 0 ≤ (x19_1 : Int) := of_decide_eq_true (zq9)
        have q548 : x19_1 < (t532.length : Int) := of_decide_eq_true (zq9)
        obtain ⟨ad548, e548, hx548_0, hx548_1⟩ := at_T37 (Kd.R_reads' HO_15.out).2.2 x19_1 p548 q548
        cases e548
        replace p548 := eq_true p548
        replace q548 := eq_true q548
        go_wp2
        repeat (go_quiet (fail); try go_wp2)
        go_roundg kj17
        case measure => have := HK1.out; have := HJ17.out; omega
        case rel => exact ⟨(x17_1), (x18_1), (wrap64 (x19_1 + 1)), (zq2), (zq2), H', ⟨zr78⟩, ⟨zr75⟩, ⟨zr76⟩, ⟨zr77⟩, ⟨zq18⟩⟩
       rw [if_neg c34] at H
       have c34b0 : (((rd_T37 t532 x19_1).f0) == (wrap64 (10 + t536))) = false := beq_eq_false_iff_ne.mpr c34
       have c34b1 : (((rd_T37 t532 x19_1).f0) != (wrap64 (10 + t536))) = true := bne_iff_ne.mpr c34
       by_cases c35 : x17_1.length < 8796093022208
       rotate_left
       ·rw [if_neg c35] at H
        exact absurd H (by simp)
       rw [if_pos c35] at H
       have LMc35 := Aside0.mk c35
       clear c35
       obtain ⟨y550, hy550⟩ : ∃ y_ : List (S37), y_ = (x17_1 ++ [(⟨(rd_T37 t532 x19_1).f0, (rd_T37 t532 x19_1).f1⟩ : S37)]) := ⟨_, rfl⟩
       replace H : (dialtonelaw22_ForwardHides.l0 kj17 (wrap64 (10 + t535)) t537 a5 true t529 t532 (wrap64 (10 + t536)) y550 x18_1 (wrap64 (x19_1 + 1))) = some r := by first | (rw [hy550]; with_reducible exact H) | (have H2_ := (Option.bind_some _ _).symm.trans H; rw [hy550]; with_reducible exact H2_) | (have H2_ := (Option.bind_some _ _).symm.trans H; with_reducible exact H2_) | with_reducible exact H | (rw [hy550]; exact H) | exact H
       have Ny550 := Aside0.mk hy550
       clear hy550
       have H' := Aside0.mk H
       clear H
       have p548 : 0 ≤ (x19_1 : Int) := of_decide_eq_true (zq9)
       have q548 : x19_1 < (t532.length : Int) := of_decide_eq_true (zq9)
       obtain ⟨ad548, e548, hx548_0, hx548_1⟩ := at_T37 (Kd.R_reads' HO_15.out).2.2 x19_1 p548 q548
       cases e548
       replace p548 := eq_true p548
       replace q548 := eq_true q548
       have p549 : 0 ≤ (x19_1 : Int) := of_decide_eq_true (zq9)
       have q549 : x19_1 < (t532.length : Int) := of_decide_eq_true (zq9)
       obtain ⟨ad549, e549, hx549_0, hx549_1⟩ := at_T37 (Kd.R_reads' HO_15.out).2.2 x19_1 p549 q549
       obtain rfl : ad548 = ad549 := (by injection e549)
       replace p549 := eq_true p549
       replace q549 := eq_true q549
       go_wp2_with (first | ((with_reducible refine gate_builtin (b := .append) (xs := #[.tmp 77, .tmp 82]) rfl ?_); at_builtin; refine Kd.R_append k37 (w0 := w) w.heap.size rfl (.tmp 77) (.tmp 82) 26 37 (.agg #[(.int .i64 0), (.int .i64 0)]) 16 rfl Tryz.underlying26 info37 rfl (by decide) (by omega) u17 x17_1 (⟨(rd_T37 t532 x19_1).f0, (rd_T37 t532 x19_1).f1⟩ : S37) [.int .i64 ((rd_T37 t532 x19_1).f0), .int .i64 ((rd_T37 t532 x19_1).f1)] (fun k_ => some k_ ≠ (.slice (some ad548) t532.length co19 : Value).ownBlock) (fun _ => False) rfl rfl ?aP (fun _ hk => hk.elim) ?aF ?aO ?aB ?aS ?aL ?_; (case aP => exact zr4); (case aB => exact zr5); (case aF => exact zr6); (case aO => exact zr7); (case aS => exact zq61); (case aL => have := LMc35.out; omega); intro v551 w36 ho hb hg hat; rw [← Ny550.out] at ho; replace HO_14 := Aside0.mk (Kd.R_over' (zR HO_14) (Kd.R_typed (zR HO_17)) (by decide) hg); replace HO_15 := Aside0.mk (Kd.R_after (ok := (fun _ => True)) (zr9) hg hat); replace HB := Aside0.mk (hb); have HO552 := Aside0.mk (ho); clear HO_17; clear ho hb hg hat))
       repeat (go_quiet (first | ((with_reducible refine gate_builtin (b := .append) (xs := #[.tmp 77, .tmp 82]) rfl ?_); at_builtin; refine Kd.R_append k37 (w0 := w) w.heap.size rfl (.tmp 77) (.tmp 82) 26 37 (.agg #[(.int .i64 0), (.int .i64 0)]) 16 rfl Tryz.underlying26 info37 rfl (by decide) (by omega) u17 x17_1 (⟨(rd_T37 t532 x19_1).f0, (rd_T37 t532 x19_1).f1⟩ : S37) [.int .i64 ((rd_T37 t532 x19_1).f0), .int .i64 ((rd_T37 t532 x19_1).f1)] (fun k_ => some k_ ≠ (.slice (some ad548) t532.length co19 : Value).ownBlock) (fun _ => False) rfl rfl ?aP (fun _ hk => hk.elim) ?aF ?aO ?aB ?aS ?aL ?_; (case aP => exact zr4); (case aB => exact zr5); (case aF => exact zr6); (case aO => exact zr7); (case aS => exact zq61); (case aL => have := LMc35.out; omega); intro v551 w36 ho hb hg hat; rw [← Ny550.out] at ho; replace HO_14 := Aside0.mk (Kd.R_over' (zR HO_14) (Kd.R_typed (zR HO_17)) (by decide) hg); replace HO_15 := Aside0.mk (Kd.R_after (ok := (fun _ => True)) (zr9) hg hat); replace HB := Aside0.mk (hb); have HO552 := Aside0.mk (ho); clear HO_17; clear ho hb hg hat)); try go_wp2_with (first | ((with_reducible refine gate_builtin (b := .append) (xs := #[.tmp 77, .tmp 82]) rfl ?_); at_builtin; refine Kd.R_append k37 (w0 := w) w.heap.size rfl (.tmp 77) (.tmp 82) 26 37 (.agg #[(.int .i64 0), (.int .i64 0)]) 16 rfl Tryz.underlying26 info37 rfl (by decide) (by omega) u17 x17_1 (⟨(rd_T37 t532 x19_1).f0, (rd_T37 t532 x19_1).f1⟩ : S37) [.int .i64 ((rd_T37 t532 x19_1).f0), .int .i64 ((rd_T37 t532 x19_1).f1)] (fun k_ => some k_ ≠ (.slice (some ad548) t532.length co19 : Value).ownBlock) (fun _ => False) rfl rfl ?aP (fun _ hk => hk.elim) ?aF ?aO ?aB ?aS ?aL ?_; (case aP => exact zr4); (case aB => exact zr5); (case aF => exact zr6); (case aO => exact zr7); (case aS => exact zq61); (case aL => have := LMc35.out; omega); intro v551 w36 ho hb hg hat; rw [← Ny550.out] at ho; replace HO_14 := Aside0.mk (Kd.R_over' (zR HO_14) (Kd.R_typed (zR HO_17)) (by decide) hg); replace HO_15 := Aside0.mk (Kd.R_after (ok := (fun _ => True)) (zr9) hg hat); replace HB := Aside0.mk (hb); have HO552 := Aside0.mk (ho); clear HO_17; clear ho hb hg hat)))
       go_roundg kj17
       case measure => have := HK1.out; have := HJ17.out; omega
       case rel => exact ⟨(y550), (x18_1), (wrap64 (x19_1 + 1)), (zq2), (zq2), H', ⟨zr78⟩, ⟨zr75⟩, ⟨zr79⟩, ⟨by (with_reducible repeat (first | apply Kd.R_alloc | apply Kd.R_drewN | apply Kd.R_drew)); exact HO552.out⟩, ⟨zq18⟩⟩
      subst c22
      rw [if_pos rfl] at H
      replace H := Option.bind_eq_some_iff.mp H
      obtain ⟨t539, A230, H⟩ := H
      try dsimp only at H
      have A23 := Aside0.mk A230
      clear A230
      by_cases c24 : x17_1.length < 8796093022208
      rotate_left
      ·rw [if_neg c24] at H
       exact absurd H (by simp)
      rw [if_pos c24] at H
      have LMc24 := Aside0.mk c24
      clear c24
      obtain ⟨y540, hy540⟩ : ∃ y_ : List (S37), y_ = (x17_1 ++ [(⟨(wrap64 (10 + t536)), wrap64 (2 + t539)⟩ : S37)]) := ⟨_, rfl⟩
      replace H : (if 0 ≤ x19_1 then (if x19_1 < (t532.length : Int) then (if ((rd_T37 t532 x19_1).f0) = (wrap64 (10 + t536)) then (dialtonelaw22_ForwardHides.l0 kj17 (wrap64 (10 + t535)) t537 a5 true t529 t532 (wrap64 (10 + t536)) y540 true (wrap64 (x19_1 + 1))) else (if y540.length < 8796093022208 then (dialtonelaw22_ForwardHides.l0 kj17 (wrap64 (10 + t535)) t537 a5 true t529 t532 (wrap64 (10 + t536)) (y540 ++ [(⟨(rd_T37 t532 x19_1).f0, (rd_T37 t532 x19_1).f1⟩ : S37)]) true (wrap64 (x19_1 + 1))) else (none))) else (none)) else (none)) = some r := by first | (rw [hy540]; with_reducible exact H) | (have H2_ := (Option.bind_some _ _).symm.trans H; rw [hy540]; with_reducible exact H2_) | (have H2_ := (Option.bind_some _ _).symm.trans H; with_reducible exact H2_) | with_reducible exact H | (rw [hy540]; exact H) | exact H
      have Ny540 := Aside0.mk hy540
      clear hy540
      by_cases c25 : 0 ≤ x19_1
      rotate_left
      ·rw [if_neg c25] at H
       exact absurd H (by simp)
      rw [if_pos c25] at H
      have c25b0 : decide (0 ≤ x19_1) = true := decide_eq_true c25
      clear c25
      by_cases c26 : x19_1 < (t532.length : Int)
      rotate_left
      ·rw [if_neg c26] at H
       exact absurd H (by simp)
      rw [if_pos c26] at H
      have c26b0 : decide (x19_1 < (t532.length : Int)) = true := decide_eq_true c26
      clear c26
      by_cases c27 : ((rd_T37 t532 x19_1).f0) = (wrap64 (10 + t536))
      ·rw [if_pos c27] at H
       have c27b0 : (((rd_T37 t532 x19_1).f0) == (wrap64 (10 + t536))) = true := beq_iff_eq.mpr c27
       have c27b1 : (((rd_T37 t532 x19_1).f0) != (wrap64 (10 + t536))) = false := bne_eq_false_iff_eq.mpr c27
       clear c27
       have H' := Aside0.mk H
       clear H
       go_wp2_with (first | (go_at_call 10; (with_reducible refine (dialtonelaw22_pick.calls a5 3 t539 _ A23.out).mono ?_); rintro e w' ⟨rfl, ⟨nd, rfl⟩⟩; (try first | exact ⟨rfl, _, World.drewN_drewN _ _ _⟩ | exact ⟨rfl, _, Eq.trans (World.drewN_drewN _ _ _) (congrArg (World.drewN _) (Nat.add_assoc _ _ _))⟩)) | ((with_reducible refine gate_builtin (b := .append) (xs := #[.tmp 62, .tmp 68]) rfl ?_); at_builtin; refine Kd.R_append k37 (w0 := w) w.heap.size rfl (.tmp 62) (.tmp 68) 26 37 (.agg #[(.int .i64 0), (.int .i64 0)]) 16 rfl Tryz.underlying26 info37 rfl (by decide) (by omega) u17 x17_1 (⟨(wrap64 (10 + t536)), wrap64 (2 + t539)⟩ : S37) [.int .i64 (wrap64 (10 + t536)), .int .i64 (wrap64 (2 + t539))] (fun k_ => some k_ ≠ (.slice Ao19 t532.length co19 : Value).ownBlock) (fun _ => False) rfl rfl ?aP (fun _ hk => hk.elim) ?aF ?aO ?aB ?aS ?aL ?_; (case aP => exact zr10); (case aB => exact zr5); (case aF => exact zr6); (case aO => exact zr7); (case aS => exact zq61); (case aL => exact zr11); intro v541 w28 ho hb hg hat; rw [← Ny540.out] at ho; replace HO_14 := Aside0.mk (Kd.R_over' (zR HO_14) (Kd.R_typed (zR HO_17)) (by decide) hg); replace HO_15 := Aside0.mk (Kd.R_after (ok := (fun _ => True)) (zr9) hg hat); replace HB := Aside0.mk (hb); have HO542 := Aside0.mk (ho); clear HO_17; clear ho hb hg hat; have p543 : 0 ≤ (x19_1 : Int) := of_decide_eq_true (zq9); have q543 : x19_1 < (t532.length : Int) := of_decide_eq_true (zq9); obtain ⟨ad543, e543, hx543_0, hx543_1⟩ := at_T37 (Kd.R_reads' HO_15.out).2.2 x19_1 p543 q543; cases e543; replace p543 := eq_true p543; replace q543 := eq_true q543))
       repeat (go_quiet (first | (go_at_call 10; (with_reducible refine (dialtonelaw22_pick.calls a5 3 t539 _ A23.out).mono ?_); rintro e w' ⟨rfl, ⟨nd, rfl⟩⟩; (try first | exact ⟨rfl, _, World.drewN_drewN _ _ _⟩ | exact ⟨rfl, _, Eq.trans (World.drewN_drewN _ _ _) (congrArg (World.drewN _) (Nat.add_assoc _ _ _))⟩)) | ((with_reducible refine gate_builtin (b := .append) (xs := #[.tmp 62, .tmp 68]) rfl ?_); at_builtin; refine Kd.R_append k37 (w0 := w) w.heap.size rfl (.tmp 62) (.tmp 68) 26 37 (.agg #[(.int .i64 0), (.int .i64 0)]) 16 rfl Tryz.underlying26 info37 rfl (by decide) (by omega) u17 x17_1 (⟨(wrap64 (10 + t536)), wrap64 (2 + t539)⟩ : S37) [.int .i64 (wrap64 (10 + t536)), .int .i64 (wrap64 (2 + t539))] (fun k_ => some k_ ≠ (.slice Ao19 t532.length co19 : Value).ownBlock) (fun _ => False) rfl rfl ?aP (fun _ hk => hk.elim) ?aF ?aO ?aB ?aS ?aL ?_; (case aP => exact zr10); (case aB => exact zr5); (case aF => exact zr6); (case aO => exact zr7); (case aS => exact zq61); (case aL => exact zr11); intro v541 w28 ho hb hg hat; rw [← Ny540.out] at ho; replace HO_14 := Aside0.mk (Kd.R_over' (zR HO_14) (Kd.R_typed (zR HO_17)) (by decide) hg); replace HO_15 := Aside0.mk (Kd.R_after (ok := (fun _ => True)) (zr9) hg hat); replace HB := Aside0.mk (hb); have HO542 := Aside0.mk (ho); clear HO_17; clear ho hb hg hat; have p543 : 0 ≤ (x19_1 : Int) := of_decide_eq_true (zq9); have q543 : x19_1 < (t532.length : Int) := of_decide_eq_true (zq9); obtain ⟨ad543, e543, hx543_0, hx543_1⟩ := at_T37 (Kd.R_reads' HO_15.out).2.2 x19_1 p543 q543; cases e543; replace p543 := eq_true p543; replace q543 := eq_true q543)); try go_wp2_with (first | (go_at_call 10; (with_reducible refine (dialtonelaw22_pick.calls a5 3 t539 _ A23.out).mono ?_); rintro e w' ⟨rfl, ⟨nd, rfl⟩⟩; (try first | exact ⟨rfl, _, World.drewN_drewN _ _ _⟩ | exact ⟨rfl, _, Eq.trans (World.drewN_drewN _ _ _) (congrArg (World.drewN _) (Nat.add_assoc _ _ _))⟩)) | ((with_reducible refine gate_builtin (b := .append) (xs := #[.tmp 62, .tmp 68]) rfl ?_); at_builtin; refine Kd.R_append k37 (w0 := w) w.heap.size rfl (.tmp 62) (.tmp 68) 26 37 (.agg #[(.int .i64 0), (.int .i64 0)]) 16 rfl Tryz.underlying26 info37 rfl (by decide) (by omega) u17 x17_1 (⟨(wrap64 (10 + t536)), wrap64 (2 + t539)⟩ : S37) [.int .i64 (wrap64 (10 + t536)), .int .i64 (wrap64 (2 + t539))] (fun k_ => some k_ ≠ (.slice Ao19 t532.length co19 : Value).ownBlock) (fun _ => False) rfl rfl ?aP (fun _ hk => hk.elim) ?aF ?aO ?aB ?aS ?aL ?_; (case aP => exact zr10); (case aB => exact zr5); (case aF => exact zr6); (case aO => exact zr7); (case aS => exact zq61); (case aL => exact zr11); intro v541 w28 ho hb hg hat; rw [← Ny540.out] at ho; replace HO_14 := Aside0.mk (Kd.R_over' (zR HO_14) (Kd.R_typed (zR HO_17)) (by decide) hg); replace HO_15 := Aside0.mk (Kd.R_after (ok := (fun _ => True)) (zr9) hg hat); replace HB := Aside0.mk (hb); have HO542 := Aside0.mk (ho); clear HO_17; clear ho hb hg hat; have p543 : 0 ≤ (x19_1 : Int) := of_decide_eq_true (zq9); have q543 : x19_1 < (t532.length : Int) := of_decide_eq_true (zq9); obtain ⟨ad543, e543, hx543_0, hx543_1⟩ := at_T37 (Kd.R_reads' HO_15.out).2.2 x19_1 p543 q543; cases e543; replace p543 := eq_true p543; replace q543 := eq_true q543)))
       go_roundg kj17
       case measure => have := HK1.out; have := HJ17.out; omega
       case rel => exact ⟨(y540), (true), (wrap64 (x19_1 + 1)), (zq2), (zq2), H', ⟨zr78⟩, ⟨zr75⟩, ⟨zr79⟩, ⟨by (with_reducible repeat (first | apply Kd.R_alloc | apply Kd.R_drewN | apply Kd.R_drew)); exact HO542.out⟩, ⟨zq18⟩⟩
      rw [if_neg c27] at H
      have c27b0 : (((rd_T37 t532 x19_1).f0) == (wrap64 (10 + t536))) = false := beq_eq_false_iff_ne.mpr c27
      have c27b1 : (((rd_T37 t532 x19_1).f0) != (wrap64 (10 + t536))) = true := bne_iff_ne.mpr c27
      by_cases c29 : y540.length < 8796093022208
      rotate_left
      ·rw [if_neg c29] at H
       exact absurd H (by simp)
      rw [if_pos c29] at H
      have LMc29 := Aside0.mk c29
      clear c29
      obtain ⟨y545, hy545⟩ : ∃ y_ : List (S37), y_ = (y540 ++ [(⟨(rd_T37 t532 x19_1).f0, (rd_T37 t532 x19_1).f1⟩ : S37)]) := ⟨_, rfl⟩
      replace H : (dialtonelaw22_ForwardHides.l0 kj17 (wrap64 (10 + t535)) t537 a5 true t529 t532 (wrap64 (10 + t536)) y545 true (wrap64 (x19_1 + 1))) = some r := by first | (rw [hy545]; with_reducible exact H) | (have H2_ := (Option.bind_some _ _).symm.trans H; rw [hy545]; with_reducible exact H2_) | (have H2_ := (Option.bind_some _ _).symm.trans H; with_reducible exact H2_) | with_reducible exact H | (rw [hy545]; exact H) | exact H
      have Ny545 := Aside0.mk hy545
      clear hy545
      have H' := Aside0.mk H
      clear H
      go_wp2_with (first | (go_at_call 10; (with_reducible refine (dialtonelaw22_pick.calls a5 3 t539 _ A23.out).mono ?_); rintro e w' ⟨rfl, ⟨nd, rfl⟩⟩; (try first | exact ⟨rfl, _, World.drewN_drewN _ _ _⟩ | exact ⟨rfl, _, Eq.trans (World.drewN_drewN _ _ _) (congrArg (World.drewN _) (Nat.add_assoc _ _ _))⟩)) | ((with_reducible refine gate_builtin (b := .append) (xs := #[.tmp 62, .tmp 68]) rfl ?_); at_builtin; refine Kd.R_append k37 (w0 := w) w.heap.size rfl (.tmp 62) (.tmp 68) 26 37 (.agg #[(.int .i64 0), (.int .i64 0)]) 16 rfl Tryz.underlying26 info37 rfl (by decide) (by omega) u17 x17_1 (⟨(wrap64 (10 + t536)), wrap64 (2 + t539)⟩ : S37) [.int .i64 (wrap64 (10 + t536)), .int .i64 (wrap64 (2 + t539))] (fun k_ => some k_ ≠ (.slice Ao19 t532.length co19 : Value).ownBlock) (fun _ => False) rfl rfl ?aP (fun _ hk => hk.elim) ?aF ?aO ?aB ?aS ?aL ?_; (case aP => exact zr10); (case aB => exact zr5); (case aF => exact zr6); (case aO => exact zr7); (case aS => exact zq61); (case aL => exact zr11); intro v541 w30 ho hb hg hat; rw [← Ny540.out] at ho; replace HO_14 := Aside0.mk (Kd.R_over' (zR HO_14) (Kd.R_typed (zR HO_17)) (by decide) hg); replace HO_15 := Aside0.mk (Kd.R_after (ok := (fun _ => True)) (zr9) hg hat); replace HB := Aside0.mk (hb); have HO542 := Aside0.mk (ho); clear HO_17; clear ho hb hg hat; have p543 : 0 ≤ (x19_1 : Int) := of_decide_eq_true (zq9); have q543 : x19_1 < (t532.length : Int) := of_decide_eq_true (zq9); obtain ⟨ad543, e543, hx543_0, hx543_1⟩ := at_T37 (Kd.R_reads' HO_15.out).2.2 x19_1 p543 q543; cases e543; replace p543 := eq_true p543; replace q543 := eq_true q543; have p544 : 0 ≤ (x19_1 : Int) := of_decide_eq_true (zq9); have q544 : x19_1 < (t532.length : Int) := of_decide_eq_true (zq9); obtain ⟨ad544, e544, hx544_0, hx544_1⟩ := at_T37 (Kd.R_reads' HO_15.out).2.2 x19_1 p544 q544; obtain rfl : ad543 = ad544 := (by injection e544); replace p544 := eq_true p544; replace q544 := eq_true q544) | ((with_reducible refine gate_builtin (b := .append) (xs := #[.tmp 77, .tmp 82]) rfl ?_); at_builtin; refine Kd.R_append k37 (w0 := w) w.heap.size rfl (.tmp 77) (.tmp 82) 26 37 (.agg #[(.int .i64 0), (.int .i64 0)]) 16 rfl Tryz.underlying26 info37 rfl (by decide) (by omega) v541 y540 (⟨(rd_T37 t532 x19_1).f0, (rd_T37 t532 x19_1).f1⟩ : S37) [.int .i64 ((rd_T37 t532 x19_1).f0), .int .i64 ((rd_T37 t532 x19_1).f1)] (fun k_ => some k_ ≠ (.slice (some ad543) t532.length co19 : Value).ownBlock) (fun _ => False) rfl rfl ?aP (fun _ hk => hk.elim) ?aF ?aO ?aB ?aS ?aL ?_; (case aP => exact zr4); (case aB => exact zr5); (case aF => exact zr6); (case aO => exact (zR HO542)); (case aS => exact zq61); (case aL => have := LMc29.out; omega); intro v546 w31 ho hb hg hat; rw [← Ny545.out] at ho; replace HO_14 := Aside0.mk (Kd.R_over' (zR HO_14) (Kd.R_typed (zR HO542)) (by decide) hg); replace HO_15 := Aside0.mk (Kd.R_after (ok := (fun _ => True)) (zR HO_15) hg hat); replace HB := Aside0.mk (hb); have HO547 := Aside0.mk (ho); clear HO542; clear ho hb hg hat))
      repeat (go_quiet (first | (go_at_call 10; (with_reducible refine (dialtonelaw22_pick.calls a5 3 t539 _ A23.out).mono ?_); rintro e w' ⟨rfl, ⟨nd, rfl⟩⟩; (try first | exact ⟨rfl, _, World.drewN_drewN _ _ _⟩ | exact ⟨rfl, _, Eq.trans (World.drewN_drewN _ _ _) (congrArg (World.drewN _) (Nat.add_assoc _ _ _))⟩)) | ((with_reducible refine gate_builtin (b := .append) (xs := #[.tmp 62, .tmp 68]) rfl ?_); at_builtin; refine Kd.R_append k37 (w0 := w) w.heap.size rfl (.tmp 62) (.tmp 68) 26 37 (.agg #[(.int .i64 0), (.int .i64 0)]) 16 rfl Tryz.underlying26 info37 rfl (by decide) (by omega) u17 x17_1 (⟨(wrap64 (10 + t536)), wrap64 (2 + t539)⟩ : S37) [.int .i64 (wrap64 (10 + t536)), .int .i64 (wrap64 (2 + t539))] (fun k_ => some k_ ≠ (.slice Ao19 t532.length co19 : Value).ownBlock) (fun _ => False) rfl rfl ?aP (fun _ hk => hk.elim) ?aF ?aO ?aB ?aS ?aL ?_; (case aP => exact zr10); (case aB => exact zr5); (case aF => exact zr6); (case aO => exact zr7); (case aS => exact zq61); (case aL => exact zr11); intro v541 w30 ho hb hg hat; rw [← Ny540.out] at ho; replace HO_14 := Aside0.mk (Kd.R_over' (zR HO_14) (Kd.R_typed (zR HO_17)) (by decide) hg); replace HO_15 := Aside0.mk (Kd.R_after (ok := (fun _ => True)) (zr9) hg hat); replace HB := Aside0.mk (hb); have HO542 := Aside0.mk (ho); clear HO_17; clear ho hb hg hat; have p543 : 0 ≤ (x19_1 : Int) := of_decide_eq_true (zq9); have q543 : x19_1 < (t532.length : Int) := of_decide_eq_true (zq9); obtain ⟨ad543, e543, hx543_0, hx543_1⟩ := at_T37 (Kd.R_reads' HO_15.out).2.2 x19_1 p543 q543; cases e543; replace p543 := eq_true p543; replace q543 := eq_true q543; have p544 : 0 ≤ (x19_1 : Int) := of_decide_eq_true (zq9); have q544 : x19_1 < (t532.length : Int) := of_decide_eq_true (zq9); obtain ⟨ad544, e544, hx544_0, hx544_1⟩ := at_T37 (Kd.R_reads' HO_15.out).2.2 x19_1 p544 q544; obtain rfl : ad543 = ad544 := (by injection e544); replace p544 := eq_true p544; replace q544 := eq_true q544) | ((with_reducible refine gate_builtin (b := .append) (xs := #[.tmp 77, .tmp 82]) rfl ?_); at_builtin; refine Kd.R_append k37 (w0 := w) w.heap.size rfl (.tmp 77) (.tmp 82) 26 37 (.agg #[(.int .i64 0), (.int .i64 0)]) 16 rfl Tryz.underlying26 info37 rfl (by decide) (by omega) v541 y540 (⟨(rd_T37 t532 x19_1).f0, (rd_T37 t532 x19_1).f1⟩ : S37) [.int .i64 ((rd_T37 t532 x19_1).f0), .int .i64 ((rd_T37 t532 x19_1).f1)] (fun k_ => some k_ ≠ (.slice (some ad543) t532.length co19 : Value).ownBlock) (fun _ => False) rfl rfl ?aP (fun _ hk => hk.elim) ?aF ?aO ?aB ?aS ?aL ?_; (case aP => exact zr4); (case aB => exact zr5); (case aF => exact zr6); (case aO => exact (zR HO542)); (case aS => exact zq61); (case aL => have := LMc29.out; omega); intro v546 w31 ho hb hg hat; rw [← Ny545.out] at ho; replace HO_14 := Aside0.mk (Kd.R_over' (zR HO_14) (Kd.R_typed (zR HO542)) (by decide) hg); replace HO_15 := Aside0.mk (Kd.R_after (ok := (fun _ => True)) (zR HO_15) hg hat); replace HB := Aside0.mk (hb); have HO547 := Aside0.mk (ho); clear HO542; clear ho hb hg hat)); try go_wp2_with (first | (go_at_call 10; (with_reducible refine (dialtonelaw22_pick.calls a5 3 t539 _ A23.out).mono ?_); rintro e w' ⟨rfl, ⟨nd, rfl⟩⟩; (try first | exact ⟨rfl, _, World.drewN_drewN _ _ _⟩ | exact ⟨rfl, _, Eq.trans (World.drewN_drewN _ _ _) (congrArg (World.drewN _) (Nat.add_assoc _ _ _))⟩)) | ((with_reducible refine gate_builtin (b := .append) (xs := #[.tmp 62, .tmp 68]) rfl ?_); at_builtin; refine Kd.R_append k37 (w0 := w) w.heap.size rfl (.tmp 62) (.tmp 68) 26 37 (.agg #[(.int .i64 0), (.int .i64 0)]) 16 rfl Tryz.underlying26 info37 rfl (by decide) (by omega) u17 x17_1 (⟨(wrap64 (10 + t536)), wrap64 (2 + t539)⟩ : S37) [.int .i64 (wrap64 (10 + t536)), .int .i64 (wrap64 (2 + t539))] (fun k_ => some k_ ≠ (.slice Ao19 t532.length co19 : Value).ownBlock) (fun _ => False) rfl rfl ?aP (fun _ hk => hk.elim) ?aF ?aO ?aB ?aS ?aL ?_; (case aP => exact zr10); (case aB => exact zr5); (case aF => exact zr6); (case aO => exact zr7); (case aS => exact zq61); (case aL => exact zr11); intro v541 w30 ho hb hg hat; rw [← Ny540.out] at ho; replace HO_14 := Aside0.mk (Kd.R_over' (zR HO_14) (Kd.R_typed (zR HO_17)) (by decide) hg); replace HO_15 := Aside0.mk (Kd.R_after (ok := (fun _ => True)) (zr9) hg hat); replace HB := Aside0.mk (hb); have HO542 := Aside0.mk (ho); clear HO_17; clear ho hb hg hat; have p543 : 0 ≤ (x19_1 : Int) := of_decide_eq_true (zq9); have q543 : x19_1 < (t532.length : Int) := of_decide_eq_true (zq9); obtain ⟨ad543, e543, hx543_0, hx543_1⟩ := at_T37 (Kd.R_reads' HO_15.out).2.2 x19_1 p543 q543; cases e543; replace p543 := eq_true p543; replace q543 := eq_true q543; have p544 : 0 ≤ (x19_1 : Int) := of_decide_eq_true (zq9); have q544 : x19_1 < (t532.length : Int) := of_decide_eq_true (zq9); obtain ⟨ad544, e544, hx544_0, hx544_1⟩ := at_T37 (Kd.R_reads' HO_15.out).2.2 x19_1 p544 q544; obtain rfl : ad543 = ad544 := (by injection e544); replace p544 := eq_true p544; replace q544 := eq_true q544) | ((with_reducible refine gate_builtin (b := .append) (xs := #[.tmp 77, .tmp 82]) rfl ?_); at_builtin; refine Kd.R_append k37 (w0 := w) w.heap.size rfl (.tmp 77) (.tmp 82) 26 37 (.agg #[(.int .i64 0), (.int .i64 0)]) 16 rfl Tryz.underlying26 info37 rfl (by decide) (by omega) v541 y540 (⟨(rd_T37 t532 x19_1).f0, (rd_T37 t532 x19_1).f1⟩ : S37) [.int .i64 ((rd_T37 t532 x19_1).f0), .int .i64 ((rd_T37 t532 x19_1).f1)] (fun k_ => some k_ ≠ (.slice (some ad543) t532.length co19 : Value).ownBlock) (fun _ => False) rfl rfl ?aP (fun _ hk => hk.elim) ?aF ?aO ?aB ?aS ?aL ?_; (case aP => exact zr4); (case aB => exact zr5); (case aF => exact zr6); (case aO => exact (zR HO542)); (case aS => exact zq61); (case aL => have := LMc29.out; omega); intro v546 w31 ho hb hg hat; rw [← Ny545.out] at ho; replace HO_14 := Aside0.mk (Kd.R_over' (zR HO_14) (Kd.R_typed (zR HO542)) (by decide) hg); replace HO_15 := Aside0.mk (Kd.R_after (ok := (fun _ => True)) (zR HO_15) hg hat); replace HB := Aside0.mk (hb); have HO547 := Aside0.mk (ho); clear HO542; clear ho hb hg hat)))
      go_roundg kj17
      case measure => have := HK1.out; have := HJ17.out; omega
      case rel => exact ⟨(y545), (true), (wrap64 (x19_1 + 1)), (zq2), (zq2), H', ⟨zr78⟩, ⟨zr75⟩, ⟨zr79⟩, ⟨by (with_reducible repeat (first | apply Kd.R_alloc | apply Kd.R_drewN | apply Kd.R_drew)); exact HO547.out⟩, ⟨zq18⟩⟩
   rw [if_neg c17] at H
   have c17b0 : decide (x19_1 < (t532.length : Int)) = false := decide_eq_false c17
   clear c17
   have HC37 := Aside0.mk H
   clear H
   obtain ⟨Ao38, co38, eo38⟩ := Kd.R_slice HO_15.out
   subst eo38
   go_upto_if 85 with (fail)
   repeat (go_quiet (fail); go_upto_if 85 with (fail))
   go_cut [17] (fun v17 wc => ∃ (kq : Nat) (x17_36 : List (S37)), Aside0 (dialtonelaw22_ForwardHides.j2 kq (wrap64 (10 + t535)) t537 true t529 t532 (wrap64 (10 + t536)) x17_36 = some r) ∧ Aside0 (kq ≤ k1) ∧ Aside0 (Kd.R k41 41 wc w.heap.size (fun _ => True) v530 t529) ∧ Aside0 (Kd.R k37 37 wc w.heap.size (fun k_ => some k_ ≠ (v17 : Value).ownBlock) (.slice Ao38 t532.length co38) t532) ∧ Aside0 (Kd.R k37 37 wc w.heap.size (fun k_ => some k_ ≠ ((.slice Ao38 t532.length co38) : Value).ownBlock) v17 x17_36) ∧ Aside0 (Below w.heap.size w wc))
   case first =>
    have H := HC37.out
    clear HC37
    by_cases c39 : x18_1 = true
    ·subst c39
     rw [if_pos rfl] at H
     have H' := Aside0.mk H
     clear H
     go_wp2
     repeat (go_quiet (fail); try go_wp2)
     go_meet
     case rel => exact ⟨_, (x17_1), H', ⟨zr74⟩, ⟨zr75⟩, ⟨zr76⟩, ⟨zr77⟩, ⟨zq18⟩⟩
    replace c39 := Bool.eq_false_iff.mpr c39
    subst c39
    rw [if_neg (show ¬ (false = true) by decide)] at H
    replace H := Option.bind_eq_some_iff.mp H
    obtain ⟨t553, A400, H⟩ := H
    try dsimp only at H
    have A40 := Aside0.mk A400
    clear A400
    by_cases c41 : x17_1.length < 8796093022208
    rotate_left
    ·rw [if_neg c41] at H
     exact absurd H (by simp)
    rw [if_pos c41] at H
    have LMc41 := Aside0.mk c41
    clear c41
    obtain ⟨y554, hy554⟩ : ∃ y_ : List (S37), y_ = (x17_1 ++ [(⟨(wrap64 (10 + t536)), wrap64 (2 + t553)⟩ : S37)]) := ⟨_, rfl⟩
    replace H : (dialtonelaw22_ForwardHides.j2 k1 (wrap64 (10 + t535)) t537 true t529 t532 (wrap64 (10 + t536)) y554) = some r := by first | (rw [hy554]; with_reducible exact H) | (have H2_ := (Option.bind_some _ _).symm.trans H; rw [hy554]; with_reducible exact H2_) | (have H2_ := (Option.bind_some _ _).symm.trans H; with_reducible exact H2_) | with_reducible exact H | (rw [hy554]; exact H) | exact H
    have Ny554 := Aside0.mk hy554
    clear hy554
    have H' := Aside0.mk H
    clear H
    go_wp2_with (first | (go_at_call 10; (with_reducible refine (dialtonelaw22_pick.calls a5 3 t553 _ A40.out).mono ?_); rintro e w' ⟨rfl, ⟨nd, rfl⟩⟩; (try first | exact ⟨rfl, _, World.drewN_drewN _ _ _⟩ | exact ⟨rfl, _, Eq.trans (World.drewN_drewN _ _ _) (congrArg (World.drewN _) (Nat.add_assoc _ _ _))⟩)) | ((with_reducible refine gate_builtin (b := .append) (xs := #[.tmp 86, .tmp 92]) rfl ?_); at_builtin; refine Kd.R_append k37 (w0 := w) w.heap.size rfl (.tmp 86) (.tmp 92) 26 37 (.agg #[(.int .i64 0), (.int .i64 0)]) 16 rfl Tryz.underlying26 info37 rfl (by decide) (by omega) u17 x17_1 (⟨(wrap64 (10 + t536)), wrap64 (2 + t553)⟩ : S37) [.int .i64 (wrap64 (10 + t536)), .int .i64 (wrap64 (2 + t553))] (fun k_ => some k_ ≠ (.slice Ao38 t532.length co38 : Value).ownBlock) (fun _ => False) rfl rfl ?aP (fun _ hk => hk.elim) ?aF ?aO ?aB ?aS ?aL ?_; (case aP => exact zr12); (case aB => exact zr5); (case aF => exact zr6); (case aO => exact zr7); (case aS => exact zq61); (case aL => have := LMc41.out; omega); intro v555 w42 ho hb hg hat; rw [← Ny554.out] at ho; replace HO_14 := Aside0.mk (Kd.R_over' (zR HO_14) (Kd.R_typed (zR HO_17)) (by decide) hg); replace HO_15 := Aside0.mk (Kd.R_after (ok := (fun _ => True)) (zr9) hg hat); replace HB := Aside0.mk (hb); have HO556 := Aside0.mk (ho); clear HO_17; clear ho hb hg hat))
    repeat (go_quiet (first | (go_at_call 10; (with_reducible refine (dialtonelaw22_pick.calls a5 3 t553 _ A40.out).mono ?_); rintro e w' ⟨rfl, ⟨nd, rfl⟩⟩; (try first | exact ⟨rfl, _, World.drewN_drewN _ _ _⟩ | exact ⟨rfl, _, Eq.trans (World.drewN_drewN _ _ _) (congrArg (World.drewN _) (Nat.add_assoc _ _ _))⟩)) | ((with_reducible refine gate_builtin (b := .append) (xs := #[.tmp 86, .tmp 92]) rfl ?_); at_builtin; refine Kd.R_append k37 (w0 := w) w.heap.size rfl (.tmp 86) (.tmp 92) 26 37 (.agg #[(.int .i64 0), (.int .i64 0)]) 16 rfl Tryz.underlying26 info37 rfl (by decide) (by omega) u17 x17_1 (⟨(wrap64 (10 + t536)), wrap64 (2 + t553)⟩ : S37) [.int .i64 (wrap64 (10 + t536)), .int .i64 (wrap64 (2 + t553))] (fun k_ => some k_ ≠ (.slice Ao38 t532.length co38 : Value).ownBlock) (fun _ => False) rfl rfl ?aP (fun _ hk => hk.elim) ?aF ?aO ?aB ?aS ?aL ?_; (case aP => exact zr12); (case aB => exact zr5); (case aF => exact zr6); (case aO => exact zr7); (case aS => exact zq61); (case aL => have := LMc41.out; omega); intro v555 w42 ho hb hg hat; rw [← Ny554.out] at ho; replace HO_14 := Aside0.mk (Kd.R_over' (zR HO_14) (Kd.R_typed (zR HO_17)) (by decide) hg); replace HO_15 := Aside0.mk (Kd.R_after (ok := (fun _ => True)) (zr9) hg hat); replace HB := Aside0.mk (hb); have HO556 := Aside0.mk (ho); clear HO_17; clear ho hb hg hat)); try go_wp2_with (first | (go_at_call 10; (with_reducible refine (dialtonelaw22_pick.calls a5 3 t553 _ A40.out).mono ?_); rintro e w' ⟨rfl, ⟨nd, rfl⟩⟩; (try first | exact ⟨rfl, _, World.drewN_drewN _ _ _⟩ | exact ⟨rfl, _, Eq.trans (World.drewN_drewN _ _ _) (congrArg (World.drewN _) (Nat.add_assoc _ _ _))⟩)) | ((with_reducible refine gate_builtin (b := .append) (xs := #[.tmp 86, .tmp 92]) rfl ?_); at_builtin; refine Kd.R_append k37 (w0 := w) w.heap.size rfl (.tmp 86) (.tmp 92) 26 37 (.agg #[(.int .i64 0), (.int .i64 0)]) 16 rfl Tryz.underlying26 info37 rfl (by decide) (by omega) u17 x17_1 (⟨(wrap64 (10 + t536)), wrap64 (2 + t553)⟩ : S37) [.int .i64 (wrap64 (10 + t536)), .int .i64 (wrap64 (2 + t553))] (fun k_ => some k_ ≠ (.slice Ao38 t532.length co38 : Value).ownBlock) (fun _ => False) rfl rfl ?aP (fun _ hk => hk.elim) ?aF ?aO ?aB ?aS ?aL ?_; (case aP => exact zr12); (case aB => exact zr5); (case aF => exact zr6); (case aO => exact zr7); (case aS => exact zq61); (case aL => have := LMc41.out; omega); intro v555 w42 ho hb hg hat; rw [← Ny554.out] at ho; replace HO_14 := Aside0.mk (Kd.R_over' (zR HO_14) (Kd.R_typed (zR HO_17)) (by decide) hg); replace HO_15 := Aside0.mk (Kd.R_after (ok := (fun _ => True)) (zr9) hg hat); replace HB := Aside0.mk (hb); have HO556 := Aside0.mk (ho); clear HO_17; clear ho hb hg hat)))
    go_meet
    case rel => exact ⟨_, (y554), H', ⟨zr74⟩, ⟨zr75⟩, ⟨zr79⟩, ⟨by (with_reducible repeat (first | apply Kd.R_alloc | apply Kd.R_drewN | apply Kd.R_drew)); exact HO556.out⟩, ⟨zq18⟩⟩
   case rest =>
    clear HC37
    try clear c1
    try clear c2
    try clear p2
    try clear c3
    try clear c4
    try clear c5
    try clear p5
    try clear q5
    try clear hx5
    try clear p6
    try clear c8
    try clear c17
    try clear c17b0
    try clear c20
    try clear c20b0
    try clear c21
    try clear c21b0
    try clear c22
    try clear c24
    try clear c25
    try clear c25b0
    try clear c26
    try clear c26b0
    try clear c27
    try clear c27b0
    try clear c27b1
    try clear c29
    try clear c32
    try clear c32b0
    try clear c33
    try clear c33b0
    try clear c34
    try clear c34b0
    try clear c34b1
    try clear c35
    try clear c39
    try clear c41
    try clear hx538_0
    try clear hx538_1
    try clear hx543_0
    try clear hx543_1
    try clear hx544_0
    try clear hx544_1
    try clear hx548_0
    try clear hx548_1
    try clear hx549_0
    try clear hx549_1
    try clear p2
    try clear p5
    try clear p538
    try clear p543
    try clear p544
    try clear p548
    try clear p549
    try clear p6
    try clear q5
    try clear q538
    try clear q543
    try clear q544
    try clear q548
    try clear q549
    obtain ⟨kq, x17_36, HA, HJ36, HO_14, HO_15, HO_17, HB⟩ := hcut
    cases kq with
    | zero => exact absurd HA.out (by simp [dialtonelaw22_ForwardHides.j2])
    | succ kj36 =>
     have H := HA.out
     clear HA
     simp only [dialtonelaw22_ForwardHides.j2] at H
     replace H := Option.bind_eq_some_iff.mp H
     obtain ⟨⟨t557, t558, t561, t564⟩, A430, H⟩ := H
     try dsimp only at H
     have A43 := Aside0.mk A430
     clear A430
     replace H := Option.bind_eq_some_iff.mp H
     obtain ⟨⟨t566, t567, t570, t573⟩, A440, H⟩ := H
     try dsimp only at H
     have A44 := Aside0.mk A440
     clear A440
     have HC45 := Aside0.mk H
     clear H
     obtain ⟨Ao46, co46, eo46⟩ := Kd.R_slice HO_14.out
     subst eo46
     go_upto_region 23 with (first | (go_at_call 11; (with_reducible refine (forward_Resolve.calls _ _ t529 _ _ t532 (wrap64 (10 + t535)) t537 t557 t558 t561 t564 _ ?side1 ?side2 ?side3 ?side4 A43.out).mono ?_); (case side1 => exact zr13); (case side2 => exact zr14); (case side3 => exact zr15); (case side4 => exact zr16); rintro e w47 ⟨v559, v562, rfl, ho0, ho1, hb⟩; replace HO_14 := Aside0.mk (Kd.R_below (zR HO_14) hb); replace HO_15 := Aside0.mk (Kd.R_below (zR HO_15) hb); replace HO_17 := Aside0.mk (Kd.R_below (zR HO_17) hb); have HO560 := Aside0.mk (Kd.R_lower ho0 (below_size (zW HB))); have HO563 := Aside0.mk (Kd.R_lower ho1 (below_size (zW HB))); replace HB := Aside0.mk (below_step (zW HB) hb); (try clear hb); (try clear hb2); (try clear hk); (try clear hi); (try clear ho0); (try clear ho1)) | ((with_reducible refine gate_dst (N := 20) rfl ?_); refine box_event ?hg (N := 20) ?hd (cs := #[.int .i64 0, .slice none 0 0, .slice none 0 0]) (t := 31) ?hr ?_; (case hd => rfl); (case hg => rfl); (case hr => exact zq4); intro gb565 hg w48 hbox hb; replace HO_14 := Aside0.mk (Kd.R_below (zR HO_14) hb); replace HO_15 := Aside0.mk (Kd.R_below (zR HO_15) hb); replace HO_17 := Aside0.mk (Kd.R_below (zR HO_17) hb); replace HO560 := Aside0.mk (Kd.R_below (zR HO560) hb); replace HO563 := Aside0.mk (Kd.R_below (zR HO563) hb); have BK565 := Aside0.mk (hbox); have GW565 := Aside0.mk ((zq5 : w.heap.size ≤ gb565)); have GE565 := Aside0.mk ((zq5 : w.heap.size ≤ gb565)); replace HB := Aside0.mk (below_step (zW HB) hb); clear hb hbox hg; have hcz49_0 : w48.cell? ⟨gb565, 0, none⟩ = some (.int .i64 0) := (blk_cell BK565.out 0).trans rfl; have hcz49_1 : w48.cell? ⟨gb565, 1, none⟩ = some (.slice none 0 0) := (blk_cell BK565.out 1).trans rfl; have hcz49_2 : w48.cell? ⟨gb565, 2, none⟩ = some (.slice none 0 0) := (blk_cell BK565.out 2).trans rfl; have hfz49_0 := blk_frozen BK565.out 0; have hfz49_1 := blk_frozen BK565.out 1; have hfz49_2 := blk_frozen BK565.out 2; obtain ⟨Ao50, co50, eo50⟩ := Kd.R_slice HO560.out; subst eo50; obtain ⟨Ao51, co51, eo51⟩ := Kd.R_slice HO563.out; subst eo51; obtain ⟨Ao52, co52, eo52⟩ := Kd.R_slice HO_17.out; subst eo52) | (go_at_call 11; (with_reducible refine (forward_Resolve.calls _ _ t529 _ _ x17_36 (wrap64 (10 + t535)) t537 t566 t567 t570 t573 _ ?side1 ?side2 ?side3 ?side4 A44.out).mono ?_); (case side1 => exact zr19); (case side2 => exact zr14); (case side3 => exact zr21); (case side4 => exact zr23); rintro e w53 ⟨v568, v571, rfl, ho0, ho1, hb⟩; replace HO_14 := Aside0.mk (Kd.R_below (zr20) hb); replace HO_15 := Aside0.mk (Kd.R_below (zr24) hb); replace HO_17 := Aside0.mk (Kd.R_below (zr22) hb); have HO569 := Aside0.mk (Kd.R_lower (Kd.R_new' (Kd.R_new' ho0 (Kd.R_lt (zr25))) (Kd.R_lt (zr26))) (below_size (zW HB))); have HO572 := Aside0.mk (Kd.R_lower (Kd.R_new' (Kd.R_new' ho1 (Kd.R_lt (zr25))) (Kd.R_lt (zr26))) (below_size (zW HB))); replace HO560 := Aside0.mk (Kd.R_mono (Kd.R_told (Kd.R_told (Kd.R_old (zr25) hb) (Kd.R_base ho0)) (Kd.R_base ho1)) (fun _ h_ => h_.1)); replace HO563 := Aside0.mk (Kd.R_mono (Kd.R_told (Kd.R_told (Kd.R_old (zr26) hb) (Kd.R_base ho0)) (Kd.R_base ho1)) (fun _ h_ => h_.1)); replace BK565 := Aside0.mk (blk_below (g := gb565) (o := .cells #[.int .i64 t557, .slice Ao50 t558.length co50, .slice Ao51 t561.length co51] 31 (0, 0)) (zr27) hb); replace HB := Aside0.mk (below_step (zW HB) hb); (try clear hb); (try clear hb2); (try clear hk); (try clear hi); (try clear ho0); (try clear ho1)) | ((with_reducible refine gate_dst (N := 22) rfl ?_); refine box_event ?hg (N := 22) ?hd (cs := #[.int .i64 0, .slice none 0 0, .slice none 0 0]) (t := 31) ?hr ?_; (case hd => rfl); (case hg => rfl); (case hr => exact zq4); intro gb574 hg w54 hbox hb; replace HO_14 := Aside0.mk (Kd.R_below (zR HO_14) hb); replace HO_15 := Aside0.mk (Kd.R_below (zR HO_15) hb); replace HO_17 := Aside0.mk (Kd.R_below (zR HO_17) hb); replace HO560 := Aside0.mk (Kd.R_below (zR HO560) hb); replace HO563 := Aside0.mk (Kd.R_below (zR HO563) hb); replace HO569 := Aside0.mk (Kd.R_below (zR HO569) hb); replace HO572 := Aside0.mk (Kd.R_below (zR HO572) hb); have BK574 := Aside0.mk (hbox); have GW574 := Aside0.mk ((zq5 : w.heap.size ≤ gb574)); have GE574 := Aside0.mk ((zq5 : w.heap.size ≤ gb574)); replace HB := Aside0.mk (below_step (zW HB) hb); have NB565_574 := Aside0.mk ((zr28 : gb565 ≠ gb574)); have NB574_565 := Aside0.mk ((zr29 : gb574 ≠ gb565)); replace BK565 := Aside0.mk (blk_below (zB BK565) hb); clear hb hbox hg; have hnb55 := NB574_565.out; have hnc55 := NB565_574.out; have hcz56_0 : w54.cell? ⟨gb574, 0, none⟩ = some (.int .i64 0) := (blk_cell BK574.out 0).trans rfl; have hcz56_1 : w54.cell? ⟨gb574, 1, none⟩ = some (.slice none 0 0) := (blk_cell BK574.out 1).trans rfl; have hcz56_2 : w54.cell? ⟨gb574, 2, none⟩ = some (.slice none 0 0) := (blk_cell BK574.out 2).trans rfl; have hfz56_0 := blk_frozen BK574.out 0; have hfz56_1 := blk_frozen BK574.out 1; have hfz56_2 := blk_frozen BK574.out 2; obtain ⟨Ao57, co57, eo57⟩ := Kd.R_slice HO569.out; subst eo57; obtain ⟨Ao58, co58, eo58⟩ := Kd.R_slice HO572.out; subst eo58))
     repeat (go_quiet (first | (go_at_call 11; (with_reducible refine (forward_Resolve.calls _ _ t529 _ _ t532 (wrap64 (10 + t535)) t537 t557 t558 t561 t564 _ ?side1 ?side2 ?side3 ?side4 A43.out).mono ?_); (case side1 => exact zr13); (case side2 => exact zr14); (case side3 => exact zr15); (case side4 => exact zr16); rintro e w47 ⟨v559, v562, rfl, ho0, ho1, hb⟩; replace HO_14 := Aside0.mk (Kd.R_below (zR HO_14) hb); replace HO_15 := Aside0.mk (Kd.R_below (zR HO_15) hb); replace HO_17 := Aside0.mk (Kd.R_below (zR HO_17) hb); have HO560 := Aside0.mk (Kd.R_lower ho0 (below_size (zW HB))); have HO563 := Aside0.mk (Kd.R_lower ho1 (below_size (zW HB))); replace HB := Aside0.mk (below_step (zW HB) hb); (try clear hb); (try clear hb2); (try clear hk); (try clear hi); (try clear ho0); (try clear ho1)) | ((with_reducible refine gate_dst (N := 20) rfl ?_); refine box_event ?hg (N := 20) ?hd (cs := #[.int .i64 0, .slice none 0 0, .slice none 0 0]) (t := 31) ?hr ?_; (case hd => rfl); (case hg => rfl); (case hr => exact zq4); intro gb565 hg w48 hbox hb; replace HO_14 := Aside0.mk (Kd.R_below (zR HO_14) hb); replace HO_15 := Aside0.mk (Kd.R_below (zR HO_15) hb); replace HO_17 := Aside0.mk (Kd.R_below (zR HO_17) hb); replace HO560 := Aside0.mk (Kd.R_below (zR HO560) hb); replace HO563 := Aside0.mk (Kd.R_below (zR HO563) hb); have BK565 := Aside0.mk (hbox); have GW565 := Aside0.mk ((zq5 : w.heap.size ≤ gb565)); have GE565 := Aside0.mk ((zq5 : w.heap.size ≤ gb565)); replace HB := Aside0.mk (below_step (zW HB) hb); clear hb hbox hg; have hcz49_0 : w48.cell? ⟨gb565, 0, none⟩ = some (.int .i64 0) := (blk_cell BK565.out 0).trans rfl; have hcz49_1 : w48.cell? ⟨gb565, 1, none⟩ = some (.slice none 0 0) := (blk_cell BK565.out 1).trans rfl; have hcz49_2 : w48.cell? ⟨gb565, 2, none⟩ = some (.slice none 0 0) := (blk_cell BK565.out 2).trans rfl; have hfz49_0 := blk_frozen BK565.out 0; have hfz49_1 := blk_frozen BK565.out 1; have hfz49_2 := blk_frozen BK565.out 2; obtain ⟨Ao50, co50, eo50⟩ := Kd.R_slice HO560.out; subst eo50; obtain ⟨Ao51, co51, eo51⟩ := Kd.R_slice HO563.out; subst eo51; obtain ⟨Ao52, co52, eo52⟩ := Kd.R_slice HO_17.out; subst eo52) | (go_at_call 11; (with_reducible refine (forward_Resolve.calls _ _ t529 _ _ x17_36 (wrap64 (10 + t535)) t537 t566 t567 t570 t573 _ ?side1 ?side2 ?side3 ?side4 A44.out).mono ?_); (case side1 => exact zr19); (case side2 => exact zr14); (case side3 => exact zr21); (case side4 => exact zr23); rintro e w53 ⟨v568, v571, rfl, ho0, ho1, hb⟩; replace HO_14 := Aside0.mk (Kd.R_below (zr20) hb); replace HO_15 := Aside0.mk (Kd.R_below (zr24) hb); replace HO_17 := Aside0.mk (Kd.R_below (zr22) hb); have HO569 := Aside0.mk (Kd.R_lower (Kd.R_new' (Kd.R_new' ho0 (Kd.R_lt (zr25))) (Kd.R_lt (zr26))) (below_size (zW HB))); have HO572 := Aside0.mk (Kd.R_lower (Kd.R_new' (Kd.R_new' ho1 (Kd.R_lt (zr25))) (Kd.R_lt (zr26))) (below_size (zW HB))); replace HO560 := Aside0.mk (Kd.R_mono (Kd.R_told (Kd.R_told (Kd.R_old (zr25) hb) (Kd.R_base ho0)) (Kd.R_base ho1)) (fun _ h_ => h_.1)); replace HO563 := Aside0.mk (Kd.R_mono (Kd.R_told (Kd.R_told (Kd.R_old (zr26) hb) (Kd.R_base ho0)) (Kd.R_base ho1)) (fun _ h_ => h_.1)); replace BK565 := Aside0.mk (blk_below (g := gb565) (o := .cells #[.int .i64 t557, .slice Ao50 t558.length co50, .slice Ao51 t561.length co51] 31 (0, 0)) (zr27) hb); replace HB := Aside0.mk (below_step (zW HB) hb); (try clear hb); (try clear hb2); (try clear hk); (try clear hi); (try clear ho0); (try clear ho1)) | ((with_reducible refine gate_dst (N := 22) rfl ?_); refine box_event ?hg (N := 22) ?hd (cs := #[.int .i64 0, .slice none 0 0, .slice none 0 0]) (t := 31) ?hr ?_; (case hd => rfl); (case hg => rfl); (case hr => exact zq4); intro gb574 hg w54 hbox hb; replace HO_14 := Aside0.mk (Kd.R_below (zR HO_14) hb); replace HO_15 := Aside0.mk (Kd.R_below (zR HO_15) hb); replace HO_17 := Aside0.mk (Kd.R_below (zR HO_17) hb); replace HO560 := Aside0.mk (Kd.R_below (zR HO560) hb); replace HO563 := Aside0.mk (Kd.R_below (zR HO563) hb); replace HO569 := Aside0.mk (Kd.R_below (zR HO569) hb); replace HO572 := Aside0.mk (Kd.R_below (zR HO572) hb); have BK574 := Aside0.mk (hbox); have GW574 := Aside0.mk ((zq5 : w.heap.size ≤ gb574)); have GE574 := Aside0.mk ((zq5 : w.heap.size ≤ gb574)); replace HB := Aside0.mk (below_step (zW HB) hb); have NB565_574 := Aside0.mk ((zr28 : gb565 ≠ gb574)); have NB574_565 := Aside0.mk ((zr29 : gb574 ≠ gb565)); replace BK565 := Aside0.mk (blk_below (zB BK565) hb); clear hb hbox hg; have hnb55 := NB574_565.out; have hnc55 := NB565_574.out; have hcz56_0 : w54.cell? ⟨gb574, 0, none⟩ = some (.int .i64 0) := (blk_cell BK574.out 0).trans rfl; have hcz56_1 : w54.cell? ⟨gb574, 1, none⟩ = some (.slice none 0 0) := (blk_cell BK574.out 1).trans rfl; have hcz56_2 : w54.cell? ⟨gb574, 2, none⟩ = some (.slice none 0 0) := (blk_cell BK574.out 2).trans rfl; have hfz56_0 := blk_frozen BK574.out 0; have hfz56_1 := blk_frozen BK574.out 1; have hfz56_2 := blk_frozen BK574.out 2; obtain ⟨Ao57, co57, eo57⟩ := Kd.R_slice HO569.out; subst eo57; obtain ⟨Ao58, co58, eo58⟩ := Kd.R_slice HO572.out; subst eo58)); go_upto_region 23 with (first | (go_at_call 11; (with_reducible refine (forward_Resolve.calls _ _ t529 _ _ t532 (wrap64 (10 + t535)) t537 t557 t558 t561 t564 _ ?side1 ?side2 ?side3 ?side4 A43.out).mono ?_); (case side1 => exact zr13); (case side2 => exact zr14); (case side3 => exact zr15); (case side4 => exact zr16); rintro e w47 ⟨v559, v562, rfl, ho0, ho1, hb⟩; replace HO_14 := Aside0.mk (Kd.R_below (zR HO_14) hb); replace HO_15 := Aside0.mk (Kd.R_below (zR HO_15) hb); replace HO_17 := Aside0.mk (Kd.R_below (zR HO_17) hb); have HO560 := Aside0.mk (Kd.R_lower ho0 (below_size (zW HB))); have HO563 := Aside0.mk (Kd.R_lower ho1 (below_size (zW HB))); replace HB := Aside0.mk (below_step (zW HB) hb); (try clear hb); (try clear hb2); (try clear hk); (try clear hi); (try clear ho0); (try clear ho1)) | ((with_reducible refine gate_dst (N := 20) rfl ?_); refine box_event ?hg (N := 20) ?hd (cs := #[.int .i64 0, .slice none 0 0, .slice none 0 0]) (t := 31) ?hr ?_; (case hd => rfl); (case hg => rfl); (case hr => exact zq4); intro gb565 hg w48 hbox hb; replace HO_14 := Aside0.mk (Kd.R_below (zR HO_14) hb); replace HO_15 := Aside0.mk (Kd.R_below (zR HO_15) hb); replace HO_17 := Aside0.mk (Kd.R_below (zR HO_17) hb); replace HO560 := Aside0.mk (Kd.R_below (zR HO560) hb); replace HO563 := Aside0.mk (Kd.R_below (zR HO563) hb); have BK565 := Aside0.mk (hbox); have GW565 := Aside0.mk ((zq5 : w.heap.size ≤ gb565)); have GE565 := Aside0.mk ((zq5 : w.heap.size ≤ gb565)); replace HB := Aside0.mk (below_step (zW HB) hb); clear hb hbox hg; have hcz49_0 : w48.cell? ⟨gb565, 0, none⟩ = some (.int .i64 0) := (blk_cell BK565.out 0).trans rfl; have hcz49_1 : w48.cell? ⟨gb565, 1, none⟩ = some (.slice none 0 0) := (blk_cell BK565.out 1).trans rfl; have hcz49_2 : w48.cell? ⟨gb565, 2, none⟩ = some (.slice none 0 0) := (blk_cell BK565.out 2).trans rfl; have hfz49_0 := blk_frozen BK565.out 0; have hfz49_1 := blk_frozen BK565.out 1; have hfz49_2 := blk_frozen BK565.out 2; obtain ⟨Ao50, co50, eo50⟩ := Kd.R_slice HO560.out; subst eo50; obtain ⟨Ao51, co51, eo51⟩ := Kd.R_slice HO563.out; subst eo51; obtain ⟨Ao52, co52, eo52⟩ := Kd.R_slice HO_17.out; subst eo52) | (go_at_call 11; (with_reducible refine (forward_Resolve.calls _ _ t529 _ _ x17_36 (wrap64 (10 + t535)) t537 t566 t567 t570 t573 _ ?side1 ?side2 ?side3 ?side4 A44.out).mono ?_); (case side1 => exact zr19); (case side2 => exact zr14); (case side3 => exact zr21); (case side4 => exact zr23); rintro e w53 ⟨v568, v571, rfl, ho0, ho1, hb⟩; replace HO_14 := Aside0.mk (Kd.R_below (zr20) hb); replace HO_15 := Aside0.mk (Kd.R_below (zr24) hb); replace HO_17 := Aside0.mk (Kd.R_below (zr22) hb); have HO569 := Aside0.mk (Kd.R_lower (Kd.R_new' (Kd.R_new' ho0 (Kd.R_lt (zr25))) (Kd.R_lt (zr26))) (below_size (zW HB))); have HO572 := Aside0.mk (Kd.R_lower (Kd.R_new' (Kd.R_new' ho1 (Kd.R_lt (zr25))) (Kd.R_lt (zr26))) (below_size (zW HB))); replace HO560 := Aside0.mk (Kd.R_mono (Kd.R_told (Kd.R_told (Kd.R_old (zr25) hb) (Kd.R_base ho0)) (Kd.R_base ho1)) (fun _ h_ => h_.1)); replace HO563 := Aside0.mk (Kd.R_mono (Kd.R_told (Kd.R_told (Kd.R_old (zr26) hb) (Kd.R_base ho0)) (Kd.R_base ho1)) (fun _ h_ => h_.1)); replace BK565 := Aside0.mk (blk_below (g := gb565) (o := .cells #[.int .i64 t557, .slice Ao50 t558.length co50, .slice Ao51 t561.length co51] 31 (0, 0)) (zr27) hb); replace HB := Aside0.mk (below_step (zW HB) hb); (try clear hb); (try clear hb2); (try clear hk); (try clear hi); (try clear ho0); (try clear ho1)) | ((with_reducible refine gate_dst (N := 22) rfl ?_); refine box_event ?hg (N := 22) ?hd (cs := #[.int .i64 0, .slice none 0 0, .slice none 0 0]) (t := 31) ?hr ?_; (case hd => rfl); (case hg => rfl); (case hr => exact zq4); intro gb574 hg w54 hbox hb; replace HO_14 := Aside0.mk (Kd.R_below (zR HO_14) hb); replace HO_15 := Aside0.mk (Kd.R_below (zR HO_15) hb); replace HO_17 := Aside0.mk (Kd.R_below (zR HO_17) hb); replace HO560 := Aside0.mk (Kd.R_below (zR HO560) hb); replace HO563 := Aside0.mk (Kd.R_below (zR HO563) hb); replace HO569 := Aside0.mk (Kd.R_below (zR HO569) hb); replace HO572 := Aside0.mk (Kd.R_below (zR HO572) hb); have BK574 := Aside0.mk (hbox); have GW574 := Aside0.mk ((zq5 : w.heap.size ≤ gb574)); have GE574 := Aside0.mk ((zq5 : w.heap.size ≤ gb574)); replace HB := Aside0.mk (below_step (zW HB) hb); have NB565_574 := Aside0.mk ((zr28 : gb565 ≠ gb574)); have NB574_565 := Aside0.mk ((zr29 : gb574 ≠ gb565)); replace BK565 := Aside0.mk (blk_below (zB BK565) hb); clear hb hbox hg; have hnb55 := NB574_565.out; have hnc55 := NB565_574.out; have hcz56_0 : w54.cell? ⟨gb574, 0, none⟩ = some (.int .i64 0) := (blk_cell BK574.out 0).trans rfl; have hcz56_1 : w54.cell? ⟨gb574, 1, none⟩ = some (.slice none 0 0) := (blk_cell BK574.out 1).trans rfl; have hcz56_2 : w54.cell? ⟨gb574, 2, none⟩ = some (.slice none 0 0) := (blk_cell BK574.out 2).trans rfl; have hfz56_0 := blk_frozen BK574.out 0; have hfz56_1 := blk_frozen BK574.out 1; have hfz56_2 := blk_frozen BK574.out 2; obtain ⟨Ao57, co57, eo57⟩ := Kd.R_slice HO569.out; subst eo57; obtain ⟨Ao58, co58, eo58⟩ := Kd.R_slice HO572.out; subst eo58)))
     (try simp only [Act.put, List.setIfInBounds_toArray, List.set_cons_zero, List.set_cons_succ])
     go_cut [115] (fun v115 wc => ∃ (kq : Nat) (x115_44 : Bool), v115 = .bool x115_44 ∧ Aside0 (dialtonelaw22_ForwardHides.j3 kq t537 true t529 t532 (wrap64 (10 + t536)) x115_44 t557 t558 t561 t566 t567 t570 = some r) ∧ Aside0 (kq ≤ kj36) ∧ Aside0 (Kd.R k41 41 wc w.heap.size (fun _ => True) (.slice Ao46 t529.length co46) t529) ∧ Aside0 (Kd.R k37 37 wc w.heap.size (fun _ => True) (.slice Ao38 t532.length co38) t532) ∧ Aside0 (Kd.R (Kd.int .i64) 3 wc w.heap.size (fun k_ => some k_ ≠ ((.slice Ao51 t561.length co51) : Value).ownBlock ∧ some k_ ≠ ((.slice Ao57 t567.length co57) : Value).ownBlock ∧ some k_ ≠ ((.slice Ao58 t570.length co58) : Value).ownBlock) (.slice Ao50 t558.length co50) t558) ∧ Aside0 (Kd.R (Kd.int .i64) 3 wc w.heap.size (fun k_ => some k_ ≠ ((.slice Ao50 t558.length co50) : Value).ownBlock ∧ some k_ ≠ ((.slice Ao57 t567.length co57) : Value).ownBlock ∧ some k_ ≠ ((.slice Ao58 t570.length co58) : Value).ownBlock) (.slice Ao51 t561.length co51) t561) ∧ Aside0 (Kd.R (Kd.int .i64) 3 wc w.heap.size (fun k_ => some k_ ≠ ((.slice Ao50 t558.length co50) : Value).ownBlock ∧ some k_ ≠ ((.slice Ao51 t561.length co51) : Value).ownBlock ∧ some k_ ≠ ((.slice Ao58 t570.length co58) : Value).ownBlock) (.slice Ao57 t567.length co57) t567) ∧ Aside0 (Kd.R (Kd.int .i64) 3 wc w.heap.size (fun k_ => some k_ ≠ ((.slice Ao50 t558.length co50) : Value).ownBlock ∧ some k_ ≠ ((.slice Ao51 t561.length co51) : Value).ownBlock ∧ some k_ ≠ ((.slice Ao57 t567.length co57) : Value).ownBlock) (.slice Ao58 t570.length co58) t570) ∧ Aside0 (wc.heap[gb565]? = some (.cells #[.int .i64 t557, (.slice Ao50 t558.length co50), (.slice Ao51 t561.length co51)] 31 (0, 0))) ∧ Aside0 (wc.heap[gb574]? = some (.cells #[.int .i64 t566, (.slice Ao57 t567.length co57), (.slice Ao58 t570.length co58)] 31 (0, 0))) ∧ Aside0 (Below w.heap.size w wc))
     case first =>
      have H := HC45.out
      clear HC45
      by_cases c59 : t564 = 0
      rotate_left
      ·rw [if_neg c59] at H
       have c59b0 : (t564 == 0) = false := beq_eq_false_iff_ne.mpr c59
       have c59b1 : (t564 != 0) = true := bne_iff_ne.mpr c59
       (first | rw [c59b0] | (simp only [i64_w, i32_w]; rw [c59b0]) | skip)
       have H' := Aside0.mk H
       clear H
       go_wp2
       repeat (go_quiet (fail); try go_wp2)
       go_meet
       case rel => exact ⟨_, (true), (zq2), H', ⟨zr80⟩, ⟨zr81⟩, ⟨zr82⟩, ⟨zr83⟩, ⟨zr84⟩, ⟨zr85⟩, ⟨zr86⟩, ⟨zr87⟩, ⟨zr88⟩, ⟨zr89⟩⟩
      rw [if_pos c59] at H
      have c59b0 : (t564 == 0) = true := beq_iff_eq.mpr c59
      have c59b1 : (t564 != 0) = false := bne_eq_false_iff_eq.mpr c59
      clear c59
      (first | rw [c59b0] | (simp only [i64_w, i32_w]; rw [c59b0]) | skip)
      have H' := Aside0.mk H
      clear H
      go_wp2
      repeat (go_quiet (fail); try go_wp2)
      go_meet
      case rel => exact ⟨_, ((t573 != 0)), (zq2), H', ⟨zr80⟩, ⟨zr81⟩, ⟨zr82⟩, ⟨zr83⟩, ⟨zr84⟩, ⟨zr85⟩, ⟨zr86⟩, ⟨zr87⟩, ⟨zr88⟩, ⟨zr89⟩⟩
     case rest =>
      clear HC45
      try clear c1
      try clear c2
      try clear p2
      try clear c3
      try clear c4
      try clear c5
      try clear p5
      try clear q5
      try clear hx5
      try clear p6
      try clear c8
      try clear c17
      try clear c17b0
      try clear c20
      try clear c20b0
      try clear c21
      try clear c21b0
      try clear c22
      try clear c24
      try clear c25
      try clear c25b0
      try clear c26
      try clear c26b0
      try clear c27
      try clear c27b0
      try clear c27b1
      try clear c29
      try clear c32
      try clear c32b0
      try clear c33
      try clear c33b0
      try clear c34
      try clear c34b0
      try clear c34b1
      try clear c35
      try clear c39
      try clear c41
      try clear p53
      try clear q53
      try clear hx53
      try clear p54
      try clear q54
      try clear hx54
      try clear c55
      try clear c59
      try clear c59b0
      try clear c59b1
      try clear hcz49_0
      try clear hcz49_1
      try clear hcz49_2
      try clear hcz56_0
      try clear hcz56_1
      try clear hcz56_2
      try clear hfz49_0
      try clear hfz49_1
      try clear hfz49_2
      try clear hfz56_0
      try clear hfz56_1
      try clear hfz56_2
      try clear hx538_0
      try clear hx538_1
      try clear hx543_0
      try clear hx543_1
      try clear hx544_0
      try clear hx544_1
      try clear hx548_0
      try clear hx548_1
      try clear hx549_0
      try clear hx549_1
      try clear p2
      try clear p5
      try clear p538
      try clear p543
      try clear p544
      try clear p548
      try clear p549
      try clear p6
      try clear q5
      try clear q538
      try clear q543
      try clear q544
      try clear q548
      try clear q549
      obtain ⟨kq, x115_44, rfl, HA, HJ44, HO_14, HO_15, HO_566001, HO_566002, HO_575001, HO_575002, BK565, BK574, HB⟩ := hcut
      cases kq with
      | zero => exact absurd HA.out (by simp [dialtonelaw22_ForwardHides.j3])
      | succ kj44 =>
       have H := HA.out
       clear HA
       simp only [dialtonelaw22_ForwardHides.j3] at H
       by_cases c60 : x115_44 = true
       ·subst c60
        rw [if_pos rfl] at H
        exact absurd H (by simp)
       replace c60 := Bool.eq_false_iff.mpr c60
       subst c60
       rw [if_neg (show ¬ (false = true) by decide)] at H
       have HC61 := Aside0.mk H
       clear H
       go_upto_region 25 with (fail)
       repeat (go_quiet (fail); go_upto_region 25 with (fail))
       go_cut [126] (fun v126 wc => ∃ (kq : Nat) (x126_60 : Bool), v126 = .bool x126_60 ∧ Aside0 (dialtonelaw22_ForwardHides.j4 kq t537 true t529 t532 x126_60 t557 t558 t561 = some r) ∧ Aside0 (kq ≤ kj44) ∧ Aside0 (Kd.R k41 41 wc w.heap.size (fun _ => True) (.slice Ao46 t529.length co46) t529) ∧ Aside0 (Kd.R k37 37 wc w.heap.size (fun _ => True) (.slice Ao38 t532.length co38) t532) ∧ Aside0 (Kd.R (Kd.int .i64) 3 wc w.heap.size (fun k_ => some k_ ≠ ((.slice Ao51 t561.length co51) : Value).ownBlock ∧ some k_ ≠ ((.slice Ao57 t567.length co57) : Value).ownBlock ∧ some k_ ≠ ((.slice Ao58 t570.length co58) : Value).ownBlock) (.slice Ao50 t558.length co50) t558) ∧ Aside0 (Kd.R (Kd.int .i64) 3 wc w.heap.size (fun k_ => some k_ ≠ ((.slice Ao50 t558.length co50) : Value).ownBlock ∧ some k_ ≠ ((.slice Ao57 t567.length co57) : Value).ownBlock ∧ some k_ ≠ ((.slice Ao58 t570.length co58) : Value).ownBlock) (.slice Ao51 t561.length co51) t561) ∧ Aside0 (Kd.R (Kd.int .i64) 3 wc w.heap.size (fun k_ => some k_ ≠ ((.slice Ao50 t558.length co50) : Value).ownBlock ∧ some k_ ≠ ((.slice Ao51 t561.length co51) : Value).ownBlock ∧ some k_ ≠ ((.slice Ao58 t570.length co58) : Value).ownBlock) (.slice Ao57 t567.length co57) t567) ∧ Aside0 (Kd.R (Kd.int .i64) 3 wc w.heap.size (fun k_ => some k_ ≠ ((.slice Ao50 t558.length co50) : Value).ownBlock ∧ some k_ ≠ ((.slice Ao51 t561.length co51) : Value).ownBlock ∧ some k_ ≠ ((.slice Ao57 t567.length co57) : Value).ownBlock) (.slice Ao58 t570.length co58) t570) ∧ Aside0 (wc.heap[gb565]? = some (.cells #[.int .i64 t557, (.slice Ao50 t558.length co50), (.slice Ao51 t561.length co51)] 31 (0, 0))) ∧ Aside0 (wc.heap[gb574]? = some (.cells #[.int .i64 t566, (.slice Ao57 t567.length co57), (.slice Ao58 t570.length co58)] 31 (0, 0))) ∧ Aside0 (Below w.heap.size w wc))
       case first =>
        have H := HC61.out
        clear HC61
        replace H := Option.bind_eq_some_iff.mp H
        obtain ⟨t575, A620, H⟩ := H
        try dsimp only at H
        have A62 := Aside0.mk A620
        clear A620
        by_cases c63 : t575 ≥ 0
        rotate_left
        ·rw [if_neg c63] at H
         have c63b0 : decide (0 ≤ t575) = false := decide_eq_false c63
         clear c63
         (first | rw [c63b0] | (simp only [i64_w, i32_w]; rw [c63b0]) | skip)
         have H' := Aside0.mk H
         clear H
         go_wp2_with (first | (go_at_call 17; (with_reducible refine (dialtonelaw22_next.calls kj44 _ _ t529 (wrap64 (10 + t536)) t537 t575 _ ?side1 ?side2 A62.out).mono ?_); (case side1 => exact zr13); (case side2 => exact zr14); rintro e w' ⟨rfl, ⟨nd, rfl⟩⟩; (try first | exact ⟨rfl, _, World.drewN_drewN _ _ _⟩ | exact ⟨rfl, _, Eq.trans (World.drewN_drewN _ _ _) (congrArg (World.drewN _) (Nat.add_assoc _ _ _))⟩)))
         repeat (go_quiet (first | (go_at_call 17; (with_reducible refine (dialtonelaw22_next.calls kj44 _ _ t529 (wrap64 (10 + t536)) t537 t575 _ ?side1 ?side2 A62.out).mono ?_); (case side1 => exact zr13); (case side2 => exact zr14); rintro e w' ⟨rfl, ⟨nd, rfl⟩⟩; (try first | exact ⟨rfl, _, World.drewN_drewN _ _ _⟩ | exact ⟨rfl, _, Eq.trans (World.drewN_drewN _ _ _) (congrArg (World.drewN _) (Nat.add_assoc _ _ _))⟩))); try go_wp2_with (first | (go_at_call 17; (with_reducible refine (dialtonelaw22_next.calls kj44 _ _ t529 (wrap64 (10 + t536)) t537 t575 _ ?side1 ?side2 A62.out).mono ?_); (case side1 => exact zr13); (case side2 => exact zr14); rintro e w' ⟨rfl, ⟨nd, rfl⟩⟩; (try first | exact ⟨rfl, _, World.drewN_drewN _ _ _⟩ | exact ⟨rfl, _, Eq.trans (World.drewN_drewN _ _ _) (congrArg (World.drewN _) (Nat.add_assoc _ _ _))⟩))))
         go_meet
         case rel => exact ⟨_, (false), (zq2), H', ⟨zr90⟩, ⟨zr75⟩, ⟨zr76⟩, ⟨zr91⟩, ⟨zr92⟩, ⟨zr93⟩, ⟨zr94⟩, ⟨zr95⟩, ⟨zr96⟩, ⟨zr89⟩⟩
        rw [if_pos c63] at H
        have c63b0 : decide (0 ≤ t575) = true := decide_eq_true c63
        clear c63
        (first | rw [c63b0] | (simp only [i64_w, i32_w]; rw [c63b0]) | skip)
        replace H := Option.bind_eq_some_iff.mp H
        obtain ⟨t576, A640, H⟩ := H
        try dsimp only at H
        have A64 := Aside0.mk A640
        clear A640
        have H' := Aside0.mk H
        clear H
        go_wp2_with (first | (go_at_call 17; (with_reducible refine (dialtonelaw22_next.calls kj44 _ _ t529 (wrap64 (10 + t536)) t537 t575 _ ?side1 ?side2 A62.out).mono ?_); (case side1 => exact zr13); (case side2 => exact zr14); rintro e w' ⟨rfl, ⟨nd, rfl⟩⟩; (try first | exact ⟨rfl, _, World.drewN_drewN _ _ _⟩ | exact ⟨rfl, _, Eq.trans (World.drewN_drewN _ _ _) (congrArg (World.drewN _) (Nat.add_assoc _ _ _))⟩); have hnb65 := NB565_574.out; have hnc65 := NB574_565.out; have hcz66_0 : wc.cell? ⟨gb565, 0, none⟩ = some (.int .i64 t557) := (blk_cell BK565.out 0).trans rfl; have hcz66_1 : wc.cell? ⟨gb565, 1, none⟩ = some (.slice Ao50 t558.length co50) := (blk_cell BK565.out 1).trans rfl; have hcz66_2 : wc.cell? ⟨gb565, 2, none⟩ = some (.slice Ao51 t561.length co51) := (blk_cell BK565.out 2).trans rfl; have hfz66_0 := blk_frozen BK565.out 0; have hfz66_1 := blk_frozen BK565.out 1; have hfz66_2 := blk_frozen BK565.out 2; have hcz67_0 : wc.cell? ⟨gb574, 0, none⟩ = some (.int .i64 t566) := (blk_cell BK574.out 0).trans rfl; have hcz67_1 : wc.cell? ⟨gb574, 1, none⟩ = some (.slice Ao57 t567.length co57) := (blk_cell BK574.out 1).trans rfl; have hcz67_2 : wc.cell? ⟨gb574, 2, none⟩ = some (.slice Ao58 t570.length co58) := (blk_cell BK574.out 2).trans rfl; have hfz67_0 := blk_frozen BK574.out 0; have hfz67_1 := blk_frozen BK574.out 1; have hfz67_2 := blk_frozen BK574.out 2) | (go_at_call 15; (with_reducible refine (dialtoneref22_Same.calls kj44 t557 _ _ t558 _ _ t561 t566 _ _ t567 _ _ t570 t576 _ ?side1 ?side2 ?side3 ?side4 ?side5 ?side6 ?side7 ?side8 A64.out).mono ?_); (case side1 => exact zr30); (case side2 => exact zr31); (case side3 => exact zr32); (case side4 => exact zr33); (case side5 => exact zr34); (case side6 => exact zr35); (case side7 => exact zr36); (case side8 => exact zr37); rintro e w68 ⟨rfl, hb⟩; replace HO_14 := Aside0.mk (Kd.R_below (zR HO_14) hb); replace HO_15 := Aside0.mk (Kd.R_below (zR HO_15) hb); replace HO_566001 := Aside0.mk (Kd.R_below (zR HO_566001) hb); replace HO_566002 := Aside0.mk (Kd.R_below (zR HO_566002) hb); replace HO_575001 := Aside0.mk (Kd.R_below (zR HO_575001) hb); replace HO_575002 := Aside0.mk (Kd.R_below (zR HO_575002) hb); replace BK565 := Aside0.mk (blk_below (zB BK565) hb); replace BK574 := Aside0.mk (blk_below (zB BK574) hb); replace HB := Aside0.mk (below_step (zW HB) hb); (try clear hb); (try clear hb2); (try clear hk); (try clear hi)))
        repeat (go_quiet (first | (go_at_call 17; (with_reducible refine (dialtonelaw22_next.calls kj44 _ _ t529 (wrap64 (10 + t536)) t537 t575 _ ?side1 ?side2 A62.out).mono ?_); (case side1 => exact zr13); (case side2 => exact zr14); rintro e w' ⟨rfl, ⟨nd, rfl⟩⟩; (try first | exact ⟨rfl, _, World.drewN_drewN _ _ _⟩ | exact ⟨rfl, _, Eq.trans (World.drewN_drewN _ _ _) (congrArg (World.drewN _) (Nat.add_assoc _ _ _))⟩); have hnb65 := NB565_574.out; have hnc65 := NB574_565.out; have hcz66_0 : wc.cell? ⟨gb565, 0, none⟩ = some (.int .i64 t557) := (blk_cell BK565.out 0).trans rfl; have hcz66_1 : wc.cell? ⟨gb565, 1, none⟩ = some (.slice Ao50 t558.length co50) := (blk_cell BK565.out 1).trans rfl; have hcz66_2 : wc.cell? ⟨gb565, 2, none⟩ = some (.slice Ao51 t561.length co51) := (blk_cell BK565.out 2).trans rfl; have hfz66_0 := blk_frozen BK565.out 0; have hfz66_1 := blk_frozen BK565.out 1; have hfz66_2 := blk_frozen BK565.out 2; have hcz67_0 : wc.cell? ⟨gb574, 0, none⟩ = some (.int .i64 t566) := (blk_cell BK574.out 0).trans rfl; have hcz67_1 : wc.cell? ⟨gb574, 1, none⟩ = some (.slice Ao57 t567.length co57) := (blk_cell BK574.out 1).trans rfl; have hcz67_2 : wc.cell? ⟨gb574, 2, none⟩ = some (.slice Ao58 t570.length co58) := (blk_cell BK574.out 2).trans rfl; have hfz67_0 := blk_frozen BK574.out 0; have hfz67_1 := blk_frozen BK574.out 1; have hfz67_2 := blk_frozen BK574.out 2) | (go_at_call 15; (with_reducible refine (dialtoneref22_Same.calls kj44 t557 _ _ t558 _ _ t561 t566 _ _ t567 _ _ t570 t576 _ ?side1 ?side2 ?side3 ?side4 ?side5 ?side6 ?side7 ?side8 A64.out).mono ?_); (case side1 => exact zr30); (case side2 => exact zr31); (case side3 => exact zr32); (case side4 => exact zr33); (case side5 => exact zr34); (case side6 => exact zr35); (case side7 => exact zr36); (case side8 => exact zr37); rintro e w68 ⟨rfl, hb⟩; replace HO_14 := Aside0.mk (Kd.R_below (zR HO_14) hb); replace HO_15 := Aside0.mk (Kd.R_below (zR HO_15) hb); replace HO_566001 := Aside0.mk (Kd.R_below (zR HO_566001) hb); replace HO_566002 := Aside0.mk (Kd.R_below (zR HO_566002) hb); replace HO_575001 := Aside0.mk (Kd.R_below (zR HO_575001) hb); replace HO_575002 := Aside0.mk (Kd.R_below (zR HO_575002) hb); replace BK565 := Aside0.mk (blk_below (zB BK565) hb); replace BK574 := Aside0.mk (blk_below (zB BK574) hb); replace HB := Aside0.mk (below_step (zW HB) hb); (try clear hb); (try clear hb2); (try clear hk); (try clear hi))); try go_wp2_with (first | (go_at_call 17; (with_reducible refine (dialtonelaw22_next.calls kj44 _ _ t529 (wrap64 (10 + t536)) t537 t575 _ ?side1 ?side2 A62.out).mono ?_); (case side1 => exact zr13); (case side2 => exact zr14); rintro e w' ⟨rfl, ⟨nd, rfl⟩⟩; (try first | exact ⟨rfl, _, World.drewN_drewN _ _ _⟩ | exact ⟨rfl, _, Eq.trans (World.drewN_drewN _ _ _) (congrArg (World.drewN _) (Nat.add_assoc _ _ _))⟩); have hnb65 := NB565_574.out; have hnc65 := NB574_565.out; have hcz66_0 : wc.cell? ⟨gb565, 0, none⟩ = some (.int .i64 t557) := (blk_cell BK565.out 0).trans rfl; have hcz66_1 : wc.cell? ⟨gb565, 1, none⟩ = some (.slice Ao50 t558.length co50) := (blk_cell BK565.out 1).trans rfl; have hcz66_2 : wc.cell? ⟨gb565, 2, none⟩ = some (.slice Ao51 t561.length co51) := (blk_cell BK565.out 2).trans rfl; have hfz66_0 := blk_frozen BK565.out 0; have hfz66_1 := blk_frozen BK565.out 1; have hfz66_2 := blk_frozen BK565.out 2; have hcz67_0 : wc.cell? ⟨gb574, 0, none⟩ = some (.int .i64 t566) := (blk_cell BK574.out 0).trans rfl; have hcz67_1 : wc.cell? ⟨gb574, 1, none⟩ = some (.slice Ao57 t567.length co57) := (blk_cell BK574.out 1).trans rfl; have hcz67_2 : wc.cell? ⟨gb574, 2, none⟩ = some (.slice Ao58 t570.length co58) := (blk_cell BK574.out 2).trans rfl; have hfz67_0 := blk_frozen BK574.out 0; have hfz67_1 := blk_frozen BK574.out 1; have hfz67_2 := blk_frozen BK574.out 2) | (go_at_call 15; (with_reducible refine (dialtoneref22_Same.calls kj44 t557 _ _ t558 _ _ t561 t566 _ _ t567 _ _ t570 t576 _ ?side1 ?side2 ?side3 ?side4 ?side5 ?side6 ?side7 ?side8 A64.out).mono ?_); (case side1 => exact zr30); (case side2 => exact zr31); (case side3 => exact zr32); (case side4 => exact zr33); (case side5 => exact zr34); (case side6 => exact zr35); (case side7 => exact zr36); (case side8 => exact zr37); rintro e w68 ⟨rfl, hb⟩; replace HO_14 := Aside0.mk (Kd.R_below (zR HO_14) hb); replace HO_15 := Aside0.mk (Kd.R_below (zR HO_15) hb); replace HO_566001 := Aside0.mk (Kd.R_below (zR HO_566001) hb); replace HO_566002 := Aside0.mk (Kd.R_below (zR HO_566002) hb); replace HO_575001 := Aside0.mk (Kd.R_below (zR HO_575001) hb); replace HO_575002 := Aside0.mk (Kd.R_below (zR HO_575002) hb); replace BK565 := Aside0.mk (blk_below (zB BK565) hb); replace BK574 := Aside0.mk (blk_below (zB BK574) hb); replace HB := Aside0.mk (below_step (zW HB) hb); (try clear hb); (try clear hb2); (try clear hk); (try clear hi))))
        go_meet
        case rel => exact ⟨_, (!t576), (zq2), H', ⟨zr90⟩, ⟨zr75⟩, ⟨zr76⟩, ⟨zr91⟩, ⟨zr92⟩, ⟨zr93⟩, ⟨zr94⟩, ⟨zr95⟩, ⟨zr96⟩, ⟨zr89⟩⟩
       case rest =>
        clear HC61
        try clear c1
        try clear c2
        try clear p2
        try clear c3
        try clear c4
        try clear c5
        try clear p5
        try clear q5
        try clear hx5
        try clear c6
        try clear p6
        try clear c8
        try clear c17
        try clear c17b0
        try clear c20
        try clear c20b0
        try clear c21
        try clear c21b0
        try clear c22
        try clear c24
        try clear c25
        try clear c25b0
        try clear c26
        try clear c26b0
        try clear c27
        try clear c27b0
        try clear c27b1
        try clear c29
        try clear c32
        try clear c32b0
        try clear c33
        try clear c33b0
        try clear c34
        try clear c34b0
        try clear c34b1
        try clear c35
        try clear c39
        try clear c41
        try clear p53
        try clear q53
        try clear hx53
        try clear p54
        try clear q54
        try clear hx54
        try clear c55
        try clear c59
        try clear c59b0
        try clear c59b1
        try clear c60
        try clear c63
        try clear c63b0
        try clear p64
        try clear c65
        try clear hcz49_0
        try clear hcz49_1
        try clear hcz49_2
        try clear hcz56_0
        try clear hcz56_1
        try clear hcz56_2
        try clear hcz66_0
        try clear hcz66_1
        try clear hcz66_2
        try clear hcz67_0
        try clear hcz67_1
        try clear hcz67_2
        try clear hfz49_0
        try clear hfz49_1
        try clear hfz49_2
        try clear hfz56_0
        try clear hfz56_1
        try clear hfz56_2
        try clear hfz66_0
        try clear hfz66_1
        try clear hfz66_2
        try clear hfz67_0
        try clear hfz67_1
        try clear hfz67_2
        try clear hx538_0
        try clear hx538_1
        try clear hx543_0
        try clear hx543_1
        try clear hx544_0
        try clear hx544_1
        try clear hx548_0
        try clear hx548_1
        try clear hx549_0
        try clear hx549_1
        try clear p2
        try clear p5
        try clear p53
        try clear p538
        try clear p54
        try clear p543
        try clear p544
        try clear p548
        try clear p549
        try clear p6
        try clear q5
        try clear q53
        try clear q538
        try clear q54
        try clear q543
        try clear q544
        try clear q548
        try clear q549
        obtain ⟨kq, x126_60, rfl, HA, HJ60, HO_14, HO_15, HO_566001, HO_566002, HO_575001, HO_575002, BK565, BK574, HB⟩ := hcut
        cases kq with
        | zero => exact absurd HA.out (by simp [dialtonelaw22_ForwardHides.j4])
        | succ kj60 =>
         have H := HA.out
         clear HA
         simp only [dialtonelaw22_ForwardHides.j4] at H
         by_cases c69 : x126_60 = true
         ·subst c69
          rw [if_pos rfl] at H
          exact absurd H (by simp)
         replace c69 := Bool.eq_false_iff.mpr c69
         subst c69
         rw [if_neg (show ¬ (false = true) by decide)] at H
         by_cases c70 : t557 ≥ 5
         ·rw [if_pos c70] at H
          have c70b0 : decide (5 ≤ t557) = true := decide_eq_true c70
          clear c70
          obtain rfl := Option.some.inj H
          have hnb71 := NB565_574.out
          have hnc71 := NB574_565.out
          have hcz72_0 : wc.cell? ⟨gb565, 0, none⟩ = some (.int .i64 t557) := (blk_cell BK565.out 0).trans rfl
          have hcz72_1 : wc.cell? ⟨gb565, 1, none⟩ = some (.slice Ao50 t558.length co50) := (blk_cell BK565.out 1).trans rfl
          have hcz72_2 : wc.cell? ⟨gb565, 2, none⟩ = some (.slice Ao51 t561.length co51) := (blk_cell BK565.out 2).trans rfl
          have hfz72_0 := blk_frozen BK565.out 0
          have hfz72_1 := blk_frozen BK565.out 1
          have hfz72_2 := blk_frozen BK565.out 2
          go_wp2
          repeat (go_quiet (fail); try go_wp2)
          go_ret
          exact ⟨zq6, zr89⟩
         rw [if_neg c70] at H
         have c70b0 : decide (5 ≤ t557) = false := decide_eq_false c70
         clear c70
         have H' := Aside0.mk H
         clear H
         have hnb73 := NB565_574.out
         have hnc73 := NB574_565.out
         have hcz74_0 : wc.cell? ⟨gb565, 0, none⟩ = some (.int .i64 t557) := (blk_cell BK565.out 0).trans rfl
         have hcz74_1 : wc.cell? ⟨gb565, 1, none⟩ = some (.slice Ao50 t558.length co50) := (blk_cell BK565.out 1).trans rfl
         have hcz74_2 : wc.cell? ⟨gb565, 2, none⟩ = some (.slice Ao51 t561.length co51) := (blk_cell BK565.out 2).trans rfl
         have hfz74_0 := blk_frozen BK565.out 0
         have hfz74_1 := blk_frozen BK565.out 1
         have hfz74_2 := blk_frozen BK565.out 2
         go_wp2
         repeat (go_quiet (fail); try go_wp2)
         go_loopg [24] kj60 (fun kq v24 w' => ∃ (x24_5 : Int), v24 = .int .i64 x24_5 ∧ Aside0 (dialtonelaw22_ForwardHides.l1 kq t537 true t529 t532 x24_5 t557 t558 t561 = some r) ∧ Aside0 (kq ≤ kj60) ∧ Aside0 (Kd.R k41 41 w' w.heap.size (fun _ => True) (.slice Ao46 t529.length co46) t529) ∧ Aside0 (Kd.R k37 37 w' w.heap.size (fun _ => True) (.slice Ao38 t532.length co38) t532) ∧ Aside0 (Kd.R (Kd.int .i64) 3 w' w.heap.size (fun k_ => some k_ ≠ ((.slice Ao51 t561.length co51) : Value).ownBlock ∧ some k_ ≠ ((.slice Ao57 t567.length co57) : Value).ownBlock ∧ some k_ ≠ ((.slice Ao58 t570.length co58) : Value).ownBlock) (.slice Ao50 t558.length co50) t558) ∧ Aside0 (Kd.R (Kd.int .i64) 3 w' w.heap.size (fun k_ => some k_ ≠ ((.slice Ao50 t558.length co50) : Value).ownBlock ∧ some k_ ≠ ((.slice Ao57 t567.length co57) : Value).ownBlock ∧ some k_ ≠ ((.slice Ao58 t570.length co58) : Value).ownBlock) (.slice Ao51 t561.length co51) t561) ∧ Aside0 (Kd.R (Kd.int .i64) 3 w' w.heap.size (fun k_ => some k_ ≠ ((.slice Ao50 t558.length co50) : Value).ownBlock ∧ some k_ ≠ ((.slice Ao51 t561.length co51) : Value).ownBlock ∧ some k_ ≠ ((.slice Ao58 t570.length co58) : Value).ownBlock) (.slice Ao57 t567.length co57) t567) ∧ Aside0 (Kd.R (Kd.int .i64) 3 w' w.heap.size (fun k_ => some k_ ≠ ((.slice Ao50 t558.length co50) : Value).ownBlock ∧ some k_ ≠ ((.slice Ao51 t561.length co51) : Value).ownBlock ∧ some k_ ≠ ((.slice Ao57 t567.length co57) : Value).ownBlock) (.slice Ao58 t570.length co58) t570) ∧ Aside0 (w'.heap[gb565]? = some (.cells #[.int .i64 t557, (.slice Ao50 t558.length co50), (.slice Ao51 t561.length co51)] 31 (0, 0))) ∧ Aside0 (w'.heap[gb574]? = some (.cells #[.int .i64 t566, (.slice Ao57 t567.length co57), (.slice Ao58 t570.length co58)] 31 (0, 0))) ∧ Aside0 (Below w.heap.size w w'))
         case atStart => exact ⟨(0), (zq2), H', ⟨Nat.le_refl _⟩, ⟨zr75⟩, ⟨zr76⟩, ⟨zr91⟩, ⟨zr92⟩, ⟨zr93⟩, ⟨zr94⟩, ⟨zr95⟩, ⟨zr96⟩, ⟨zr89⟩⟩
         case round =>
          clear H'
          try clear c1
          try clear c2
          try clear p2
          try clear c3
          try clear c4
          try clear c5
          try clear p5
          try clear q5
          try clear hx5
          try clear c6
          try clear p6
          try clear c7
          try clear c8
          try clear c17
          try clear c17b0
          try clear c20
          try clear c20b0
          try clear c21
          try clear c21b0
          try clear c22
          try clear c24
          try clear c25
          try clear c25b0
          try clear c26
          try clear c26b0
          try clear c27
          try clear c27b0
          try clear c27b1
          try clear c29
          try clear c32
          try clear c32b0
          try clear c33
          try clear c33b0
          try clear c34
          try clear c34b0
          try clear c34b1
          try clear c35
          try clear c39
          try clear c41
          try clear p53
          try clear q53
          try clear hx53
          try clear p54
          try clear q54
          try clear hx54
          try clear c55
          try clear c59
          try clear c59b0
          try clear c59b1
          try clear c60
          try clear c63
          try clear c63b0
          try clear p64
          try clear c65
          try clear c69
          try clear c70
          try clear c70b0
          try clear c71
          try clear c73
          try clear hcz49_0
          try clear hcz49_1
          try clear hcz49_2
          try clear hcz56_0
          try clear hcz56_1
          try clear hcz56_2
          try clear hcz66_0
          try clear hcz66_1
          try clear hcz66_2
          try clear hcz67_0
          try clear hcz67_1
          try clear hcz67_2
          try clear hcz72_0
          try clear hcz72_1
          try clear hcz72_2
          try clear hcz74_0
          try clear hcz74_1
          try clear hcz74_2
          try clear hfz49_0
          try clear hfz49_1
          try clear hfz49_2
          try clear hfz56_0
          try clear hfz56_1
          try clear hfz56_2
          try clear hfz66_0
          try clear hfz66_1
          try clear hfz66_2
          try clear hfz67_0
          try clear hfz67_1
          try clear hfz67_2
          try clear hfz72_0
          try clear hfz72_1
          try clear hfz72_2
          try clear hfz74_0
          try clear hfz74_1
          try clear hfz74_2
          try clear hx538_0
          try clear hx538_1
          try clear hx543_0
          try clear hx543_1
          try clear hx544_0
          try clear hx544_1
          try clear hx548_0
          try clear hx548_1
          try clear hx549_0
          try clear hx549_1
          try clear p2
          try clear p5
          try clear p53
          try clear p538
          try clear p54
          try clear p543
          try clear p544
          try clear p548
          try clear p549
          try clear p6
          try clear p64
          try clear q5
          try clear q53
          try clear q538
          try clear q54
          try clear q543
          try clear q544
          try clear q548
          try clear q549
          obtain ⟨x24_5, rfl, HA, HK5, HO_14, HO_15, HO_566001, HO_566002, HO_575001, HO_575002, BK565, BK574, HB⟩ := hrel
          cases gk with
          | zero => exact absurd HA.out (by simp [dialtonelaw22_ForwardHides.l1])
          | succ k5 =>
           have H := HA.out
           clear HA
           simp only [dialtonelaw22_ForwardHides.l1] at H
           by_cases c75 : x24_5 < (t558.length : Int)
           rotate_left
           ·rw [if_neg c75] at H
            have c75b0 : decide (x24_5 < (t558.length : Int)) = false := decide_eq_false c75
            clear c75
            obtain rfl := Option.some.inj H
            have hnb102 := NB565_574.out
            have hnc102 := NB574_565.out
            have hcz103_0 : wr.cell? ⟨gb565, 0, none⟩ = some (.int .i64 t557) := (blk_cell BK565.out 0).trans rfl
            have hcz103_1 : wr.cell? ⟨gb565, 1, none⟩ = some (.slice Ao50 t558.length co50) := (blk_cell BK565.out 1).trans rfl
            have hcz103_2 : wr.cell? ⟨gb565, 2, none⟩ = some (.slice Ao51 t561.length co51) := (blk_cell BK565.out 2).trans rfl
            have hfz103_0 := blk_frozen BK565.out 0
            have hfz103_1 := blk_frozen BK565.out 1
            have hfz103_2 := blk_frozen BK565.out 2
            go_wp2
            repeat (go_quiet (fail); try go_wp2)
            go_ret
            exact ⟨zq6, zr89⟩
           rw [if_pos c75] at H
           have c75b0 : decide (x24_5 < (t558.length : Int)) = true := decide_eq_true c75
           clear c75
           by_cases c76 : 0 ≤ x24_5
           rotate_left
           ·rw [if_neg c76] at H
            exact absurd H (by simp)
           rw [if_pos c76] at H
           have c76b0 : decide (0 ≤ x24_5) = true := decide_eq_true c76
           clear c76
           replace H := Option.bind_eq_some_iff.mp H
           obtain ⟨⟨t578, t579, t582, t585⟩, A770, H⟩ := H
           try dsimp only at H
           have A77 := Aside0.mk A770
           clear A770
           by_cases c78 : t585 = 0
           rotate_left
           ·rw [if_neg c78] at H
            exact absurd H (by simp)
           rw [if_pos c78] at H
           have c78b0 : (t585 == 0) = true := beq_iff_eq.mpr c78
           have c78b1 : (t585 != 0) = false := bne_eq_false_iff_eq.mpr c78
           clear c78
           by_cases c79 : t578 = t557
           rotate_left
           ·rw [if_neg c79] at H
            exact absurd H (by simp)
           rw [if_pos c79] at H
           have c79b0 : (t578 == t557) = true := beq_iff_eq.mpr c79
           have c79b1 : (t578 != t557) = false := bne_eq_false_iff_eq.mpr c79
           clear c79
           have c80b0 := eq_true (of_decide_eq_true (zq9) : 0 ≤ x24_5)
           by_cases c81 : x24_5 ≤ (t558.length : Int)
           rotate_left
           ·rw [if_neg c81] at H
            exact absurd H (by simp)
           rw [if_pos c81] at H
           have c81b0 := eq_true c81
           have c81b1 : decide (x24_5 ≤ (t558.length : Int)) = true := decide_eq_true c81
           clear c81
           obtain ⟨y587, hy587⟩ : ∃ y_ : List Int, y_ = (t558.drop (x24_5 : Int).toNat) := ⟨_, rfl⟩
           replace H : ((dialtoneref22_Ints.f k5 t579 y587).bind fun t591 => (if t591 = true then (if x24_5 ≤ (t561.length : Int) then ((dialtoneref22_Ints.f k5 t582 (t561.drop (x24_5 : Int).toNat)).bind fun t596 => (if t596 = true then (dialtonelaw22_ForwardHides.l1 k5 t537 true t529 t532 (wrap64 (x24_5 + 1)) t557 t558 t561) else (none))) else (none)) else (none))) = some r := by first | (rw [hy587]; with_reducible exact H) | (have H2_ := (Option.bind_some _ _).symm.trans H; rw [hy587]; with_reducible exact H2_) | (have H2_ := (Option.bind_some _ _).symm.trans H; with_reducible exact H2_) | with_reducible exact H | (rw [hy587]; exact H) | exact H
           have Ny587 := Aside0.mk hy587
           clear hy587
           replace H := Option.bind_eq_some_iff.mp H
           obtain ⟨t591, A820, H⟩ := H
           try dsimp only at H
           have A82 := Aside0.mk A820
           clear A820
           by_cases c83 : t591 = true
           rotate_left
           ·replace c83 := Bool.eq_false_iff.mpr c83
            subst c83
            rw [if_neg (show ¬ (false = true) by decide)] at H
            exact absurd H (by simp)
           subst c83
           rw [if_pos rfl] at H
           have c84b0 := eq_true (of_decide_eq_true (zq9) : 0 ≤ x24_5)
           by_cases c85 : x24_5 ≤ (t561.length : Int)
           rotate_left
           ·rw [if_neg c85] at H
            exact absurd H (by simp)
           rw [if_pos c85] at H
           have c85b0 := eq_true c85
           have c85b1 : decide (x24_5 ≤ (t561.length : Int)) = true := decide_eq_true c85
           clear c85
           obtain ⟨y592, hy592⟩ : ∃ y_ : List Int, y_ = (t561.drop (x24_5 : Int).toNat) := ⟨_, rfl⟩
           replace H : ((dialtoneref22_Ints.f k5 t582 y592).bind fun t596 => (if t596 = true then (dialtonelaw22_ForwardHides.l1 k5 t537 true t529 t532 (wrap64 (x24_5 + 1)) t557 t558 t561) else (none))) = some r := by first | (rw [hy592]; with_reducible exact H) | (have H2_ := (Option.bind_some _ _).symm.trans H; rw [hy592]; with_reducible exact H2_) | (have H2_ := (Option.bind_some _ _).symm.trans H; with_reducible exact H2_) | with_reducible exact H | (rw [hy592]; exact H) | exact H
           have Ny592 := Aside0.mk hy592
           clear hy592
           replace H := Option.bind_eq_some_iff.mp H
           obtain ⟨t596, A860, H⟩ := H
           try dsimp only at H
           have A86 := Aside0.mk A860
           clear A860
           by_cases c87 : t596 = true
           rotate_left
           ·replace c87 := Bool.eq_false_iff.mpr c87
            subst c87
            rw [if_neg (show ¬ (false = true) by decide)] at H
            exact absurd H (by simp)
           subst c87
           rw [if_pos rfl] at H
           have H' := Aside0.mk H
           clear H
           have hnb88 := NB565_574.out
           have hnc88 := NB574_565.out
           have hcz89_0 : wr.cell? ⟨gb565, 0, none⟩ = some (.int .i64 t557) := (blk_cell BK565.out 0).trans rfl
           have hcz89_1 : wr.cell? ⟨gb565, 1, none⟩ = some (.slice Ao50 t558.length co50) := (blk_cell BK565.out 1).trans rfl
           have hcz89_2 : wr.cell? ⟨gb565, 2, none⟩ = some (.slice Ao51 t561.length co51) := (blk_cell BK565.out 2).trans rfl
           have hfz89_0 := blk_frozen BK565.out 0
           have hfz89_1 := blk_frozen BK565.out 1
           have hfz89_2 := blk_frozen BK565.out 2
           have p577 : 0 ≤ (x24_5 : Int) := of_decide_eq_true (zq9)
           have q577 : x24_5 < (t558.length : Int) := of_decide_eq_true (zq9)
           obtain ⟨ad577, e577, hx577_0⟩ := Kd.at_int (Kd.R_reads' HO_566001.out).2.2 x24_5 p577 q577
           cases e577
           replace p577 := eq_true p577
           replace q577 := eq_true q577
           go_wp2_with (first | (go_at_call 11; (with_reducible refine (forward_Resolve.calls _ _ t529 _ _ t532 (rd t558 x24_5) t537 t578 t579 t582 t585 _ ?side1 ?side2 ?side3 ?side4 A77.out).mono ?_); (case side1 => exact zr13); (case side2 => exact zr14); (case side3 => exact zr15); (case side4 => exact zr16); rintro e w90 ⟨v580, v583, rfl, ho0, ho1, hb⟩; replace HO_14 := Aside0.mk (Kd.R_below (zR HO_14) hb); replace HO_15 := Aside0.mk (Kd.R_below (zR HO_15) hb); have HO581 := Aside0.mk (Kd.R_lower (Kd.R_new' (Kd.R_new' (Kd.R_new' (Kd.R_new' ho0 (Kd.R_lt (zR HO_566001))) (Kd.R_lt (zR HO_566002))) (Kd.R_lt (zR HO_575001))) (Kd.R_lt (zR HO_575002))) (below_size (zW HB))); have HO584 := Aside0.mk (Kd.R_lower (Kd.R_new' (Kd.R_new' (Kd.R_new' (Kd.R_new' ho1 (Kd.R_lt (zR HO_566001))) (Kd.R_lt (zR HO_566002))) (Kd.R_lt (zR HO_575001))) (Kd.R_lt (zR HO_575002))) (below_size (zW HB))); replace HO_566001 := Aside0.mk (Kd.R_mono (Kd.R_told (Kd.R_told (Kd.R_old (zR HO_566001) hb) (Kd.R_base ho0)) (Kd.R_base ho1)) (fun _ h_ => h_.1)); replace HO_566002 := Aside0.mk (Kd.R_mono (Kd.R_told (Kd.R_told (Kd.R_old (zR HO_566002) hb) (Kd.R_base ho0)) (Kd.R_base ho1)) (fun _ h_ => h_.1)); replace HO_575001 := Aside0.mk (Kd.R_mono (Kd.R_told (Kd.R_told (Kd.R_old (zR HO_575001) hb) (Kd.R_base ho0)) (Kd.R_base ho1)) (fun _ h_ => h_.1)); replace HO_575002 := Aside0.mk (Kd.R_mono (Kd.R_told (Kd.R_told (Kd.R_old (zR HO_575002) hb) (Kd.R_base ho0)) (Kd.R_base ho1)) (fun _ h_ => h_.1)); replace BK565 := Aside0.mk (blk_below (zB BK565) hb); replace BK574 := Aside0.mk (blk_below (zB BK574) hb); replace HB := Aside0.mk (below_step (zW HB) hb); (try clear hb); (try clear hb2); (try clear hk); (try clear hi); (try clear ho0); (try clear ho1)) | ((with_reducible refine gate_dst (N := 25) rfl ?_); refine box_event ?hg (N := 25) ?hd (cs := #[.int .i64 0, .slice none 0 0, .slice none 0 0]) (t := 31) ?hr ?_; (case hd => rfl); (case hg => rfl); (case hr => exact zq4); intro gb586 hg w91 hbox hb; replace HO_14 := Aside0.mk (Kd.R_below (zR HO_14) hb); replace HO_15 := Aside0.mk (Kd.R_below (zR HO_15) hb); replace HO_566001 := Aside0.mk (Kd.R_below (zR HO_566001) hb); replace HO_566002 := Aside0.mk (Kd.R_below (zR HO_566002) hb); replace HO_575001 := Aside0.mk (Kd.R_below (zR HO_575001) hb); replace HO_575002 := Aside0.mk (Kd.R_below (zR HO_575002) hb); replace HO581 := Aside0.mk (Kd.R_below (zR HO581) hb); replace HO584 := Aside0.mk (Kd.R_below (zR HO584) hb); have BK586 := Aside0.mk (hbox); have GW586 := Aside0.mk ((zq5 : w.heap.size ≤ gb586)); have GE586 := Aside0.mk ((zq5 : w.heap.size ≤ gb586)); replace HB := Aside0.mk (below_step (zW HB) hb); have NB565_586 := Aside0.mk ((zr28 : gb565 ≠ gb586)); have NB586_565 := Aside0.mk ((zr29 : gb586 ≠ gb565)); replace BK565 := Aside0.mk (blk_below (zB BK565) hb); have NB574_586 := Aside0.mk ((zr38 : gb574 ≠ gb586)); have NB586_574 := Aside0.mk ((zr39 : gb586 ≠ gb574)); replace BK574 := Aside0.mk (blk_below (zB BK574) hb); clear hb hbox hg; have hnb92 := NB586_565.out; have hnc92 := NB565_586.out; have hnb93 := NB586_574.out; have hnc93 := NB574_586.out; have hcz94_0 : w91.cell? ⟨gb586, 0, none⟩ = some (.int .i64 0) := (blk_cell BK586.out 0).trans rfl; have hcz94_1 : w91.cell? ⟨gb586, 1, none⟩ = some (.slice none 0 0) := (blk_cell BK586.out 1).trans rfl; have hcz94_2 : w91.cell? ⟨gb586, 2, none⟩ = some (.slice none 0 0) := (blk_cell BK586.out 2).trans rfl; have hfz94_0 := blk_frozen BK586.out 0; have hfz94_1 := blk_frozen BK586.out 1; have hfz94_2 := blk_frozen BK586.out 2; obtain ⟨Ao95, co95, eo95⟩ := Kd.R_slice HO581.out; subst eo95; obtain ⟨Ao96, co96, eo96⟩ := Kd.R_slice HO584.out; subst eo96) | ((with_reducible refine gate_store (t := 31) (p := 25) rfl ?_); (try (rw [drewN_self w91]; generalize hq_ : World.drewN w91 _ = w91; replace HO_14 := Aside0.mk (Kd.R_at hq_ HO_14.out); replace HO_15 := Aside0.mk (Kd.R_at hq_ HO_15.out); replace HO_566001 := Aside0.mk (Kd.R_at hq_ HO_566001.out); replace HO_566002 := Aside0.mk (Kd.R_at hq_ HO_566002.out); replace HO_575001 := Aside0.mk (Kd.R_at hq_ HO_575001.out); replace HO_575002 := Aside0.mk (Kd.R_at hq_ HO_575002.out); replace HO581 := Aside0.mk (Kd.R_at hq_ HO581.out); replace HO584 := Aside0.mk (Kd.R_at hq_ HO584.out); replace BK565 := Aside0.mk (blk_at hq_ BK565.out); replace BK574 := Aside0.mk (blk_at hq_ BK574.out); replace BK586 := Aside0.mk (blk_at hq_ BK586.out); replace HB := Aside0.mk (below_at hq_ HB.out); clear hq_)); refine store_event (t := 31) (p := 25) (v := ?vo_w97) (w1 := (((w91.setCell ⟨gb586, 0, none⟩ (.int .i64 t578)).setCell ⟨gb586, 1, none⟩ (.slice Ao95 t579.length co95)).setCell ⟨gb586, 2, none⟩ (.slice Ao96 t582.length co96))) ?hg ?ho ?hn ?hr ?_; (case ho => rfl); (case hg => rfl); (case hn => rfl); (case hr => exact zq4); intro w97 hw; replace HO_14 : Aside0 (Kd.R k41 41 w97 w.heap.size (fun _ => True) (.slice Ao46 t529.length co46) t529) := ⟨(zr40)⟩; replace HO_15 : Aside0 (Kd.R k37 37 w97 w.heap.size (fun _ => True) (.slice Ao38 t532.length co38) t532) := ⟨(zr42)⟩; replace HO_566001 : Aside0 (Kd.R (Kd.int .i64) 3 w97 w.heap.size (fun k_ => some k_ ≠ (.slice Ao51 t561.length co51 : Value).ownBlock ∧ some k_ ≠ (.slice Ao57 t567.length co57 : Value).ownBlock ∧ some k_ ≠ (.slice Ao58 t570.length co58 : Value).ownBlock ∧ some k_ ≠ (.slice Ao95 t579.length co95 : Value).ownBlock ∧ some k_ ≠ (.slice Ao96 t582.length co96 : Value).ownBlock) (.slice (some ad577) t558.length co50) t558) := ⟨(zr44)⟩; replace HO_566002 : Aside0 (Kd.R (Kd.int .i64) 3 w97 w.heap.size (fun k_ => some k_ ≠ (.slice (some ad577) t558.length co50 : Value).ownBlock ∧ some k_ ≠ (.slice Ao57 t567.length co57 : Value).ownBlock ∧ some k_ ≠ (.slice Ao58 t570.length co58 : Value).ownBlock ∧ some k_ ≠ (.slice Ao95 t579.length co95 : Value).ownBlock ∧ some k_ ≠ (.slice Ao96 t582.length co96 : Value).ownBlock) (.slice Ao51 t561.length co51) t561) := ⟨(zr46)⟩; replace HO_575001 : Aside0 (Kd.R (Kd.int .i64) 3 w97 w.heap.size (fun k_ => some k_ ≠ (.slice (some ad577) t558.length co50 : Value).ownBlock ∧ some k_ ≠ (.slice Ao51 t561.length co51 : Value).ownBlock ∧ some k_ ≠ (.slice Ao58 t570.length co58 : Value).ownBlock ∧ some k_ ≠ (.slice Ao95 t579.length co95 : Value).ownBlock ∧ some k_ ≠ (.slice Ao96 t582.length co96 : Value).ownBlock) (.slice Ao57 t567.length co57) t567) := ⟨(zr48)⟩; replace HO_575002 : Aside0 (Kd.R (Kd.int .i64) 3 w97 w.heap.size (fun k_ => some k_ ≠ (.slice (some ad577) t558.length co50 : Value).ownBlock ∧ some k_ ≠ (.slice Ao51 t561.length co51 : Value).ownBlock ∧ some k_ ≠ (.slice Ao57 t567.length co57 : Value).ownBlock ∧ some k_ ≠ (.slice Ao95 t579.length co95 : Value).ownBlock ∧ some k_ ≠ (.slice Ao96 t582.length co96 : Value).ownBlock) (.slice Ao58 t570.length co58) t570) := ⟨(zr50)⟩; replace HO581 : Aside0 (Kd.R (Kd.int .i64) 3 w97 w.heap.size (fun k_ => some k_ ≠ (.slice (some ad577) t558.length co50 : Value).ownBlock ∧ some k_ ≠ (.slice Ao51 t561.length co51 : Value).ownBlock ∧ some k_ ≠ (.slice Ao57 t567.length co57 : Value).ownBlock ∧ some k_ ≠ (.slice Ao58 t570.length co58 : Value).ownBlock ∧ some k_ ≠ (.slice Ao96 t582.length co96 : Value).ownBlock) (.slice Ao95 t579.length co95) t579) := ⟨(zr52)⟩; replace HO584 : Aside0 (Kd.R (Kd.int .i64) 3 w97 w.heap.size (fun k_ => some k_ ≠ (.slice (some ad577) t558.length co50 : Value).ownBlock ∧ some k_ ≠ (.slice Ao51 t561.length co51 : Value).ownBlock ∧ some k_ ≠ (.slice Ao57 t567.length co57 : Value).ownBlock ∧ some k_ ≠ (.slice Ao58 t570.length co58 : Value).ownBlock ∧ some k_ ≠ (.slice Ao95 t579.length co95 : Value).ownBlock) (.slice Ao96 t582.length co96) t582) := ⟨(zr54)⟩; replace BK565 : Aside0 (w97.heap[gb565]? = some (.cells #[.int .i64 t557, .slice (some ad577) t558.length co50, .slice Ao51 t561.length co51] 31 (0, 0))) := ⟨(zr56)⟩; replace BK574 : Aside0 (w97.heap[gb574]? = some (.cells #[.int .i64 t566, .slice Ao57 t567.length co57, .slice Ao58 t570.length co58] 31 (0, 0))) := ⟨(zr58)⟩; replace BK586 : Aside0 (w97.heap[gb586]? = some (.cells #[.int .i64 t578, .slice Ao95 t579.length co95, .slice Ao96 t582.length co96] 31 (0, 0))) := ⟨(zr60)⟩; replace HB : Aside0 (Below w.heap.size w w97) := ⟨(by rw [hw]; exact (zW HB))⟩; clear hw; have hcz98_0 : w97.cell? ⟨gb586, 0, none⟩ = some (.int .i64 t578) := (blk_cell BK586.out 0).trans rfl; have hcz98_1 : w97.cell? ⟨gb586, 1, none⟩ = some (.slice Ao95 t579.length co95) := (blk_cell BK586.out 1).trans rfl; have hcz98_2 : w97.cell? ⟨gb586, 2, none⟩ = some (.slice Ao96 t582.length co96) := (blk_cell BK586.out 2).trans rfl; have hfz98_0 := blk_frozen BK586.out 0; have hfz98_1 := blk_frozen BK586.out 1; have hfz98_2 := blk_frozen BK586.out 2; have hcz99_0 : w97.cell? ⟨gb565, 0, none⟩ = some (.int .i64 t557) := (blk_cell BK565.out 0).trans rfl; have hcz99_1 : w97.cell? ⟨gb565, 1, none⟩ = some (.slice (some ad577) t558.length co50) := (blk_cell BK565.out 1).trans rfl; have hcz99_2 : w97.cell? ⟨gb565, 2, none⟩ = some (.slice Ao51 t561.length co51) := (blk_cell BK565.out 2).trans rfl; have hfz99_0 := blk_frozen BK565.out 0; have hfz99_1 := blk_frozen BK565.out 1; have hfz99_2 := blk_frozen BK565.out 2; have q100 : (x24_5 : Int) ≤ ((t558.length : Int) : Int) := of_decide_eq_true (zq9); obtain ⟨i0100, hi0100, _, hsz100, _⟩ := info_parts info3; have hroom100 : t558.length ≤ co50 := (Kd.R_reads' HO_566001.out).2.1; have hC100 : Kd.C (Kd.int .i64) _ (some ad577) t558.length t558 := (Kd.R_reads' HO_566001.out).2.2; have q0100 : (0 : Int) ≤ (x24_5 : Int) := of_decide_eq_true (zq9); have hcut100 := cut_from (P := Tryz.prog) 29 3 .i64 Tryz.underlying29 hi0100 1 hsz100 (some ad577) t558.length co50 x24_5 q0100 q100; have hr100 := Kd.C_drop (m := (x24_5 : Int).toNat) (c := co50) hC100 (by omega) hroom100; obtain ⟨A100, hA100⟩ : ∃ A1, A1 = (if co50 = (x24_5 : Int).toNat then (some ad577) else ((some ad577) : Option Addr).map (·.add ((x24_5 : Int).toNat * 1))) := ⟨_, rfl⟩; obtain ⟨c100, hc100⟩ : ∃ c1, c1 = co50 - (x24_5 : Int).toNat := ⟨_, rfl⟩; have hy100 : y587.length = t558.length - (x24_5 : Int).toNat := (zr62); rw [show (t558).drop (x24_5 : Int).toNat = y587 from Ny587.out.symm] at hr100; replace hr100 : Kd.C (Kd.int .i64) _ A100 y587.length y587 := (by rw [hA100]; exact hr100); rw [← hy100, ← hA100, ← hc100] at hcut100; have HR590 := Aside0.mk hr100; have HC590 := Aside0.mk (show y587.length ≤ c100 from by rw [hy100, hc100]; exact Nat.sub_le_sub_right hroom100 _); clear hr100 hC100 hroom100 hi0100 hsz100 hc100; have KY100 := Aside0.mk hy100; have KA100 := Aside0.mk hA100; clear hy100 hA100; have KL100 := Aside0.mk (show (x24_5 : Int).toNat ≤ t558.length from by omega); replace q100 := eq_true q100) | (go_at_call 16; (with_reducible refine (dialtoneref22_Ints.calls k5 _ _ t579 _ _ y587 true _ ?side1 ?side2 ?side3 ?side4 A82.out).mono ?_); (case side1 => exact zr63); (case side2 => exact zr64); (case side3 => exact zr65); (case side4 => exact HC590.out); rintro e w' ⟨rfl, ⟨nd, rfl⟩⟩; (try first | exact ⟨rfl, _, World.drewN_drewN _ _ _⟩ | exact ⟨rfl, _, Eq.trans (World.drewN_drewN _ _ _) (congrArg (World.drewN _) (Nat.add_assoc _ _ _))⟩); have q101 : (x24_5 : Int) ≤ ((t561.length : Int) : Int) := of_decide_eq_true (zq9); obtain ⟨i0101, hi0101, _, hsz101, _⟩ := info_parts info3; have hroom101 : t561.length ≤ co51 := (Kd.R_reads' HO_566002.out).2.1; have hC101 : Kd.C (Kd.int .i64) _ Ao51 t561.length t561 := (Kd.R_reads' HO_566002.out).2.2; have q0101 : (0 : Int) ≤ (x24_5 : Int) := of_decide_eq_true (zq9); have hcut101 := cut_from (P := Tryz.prog) 29 3 .i64 Tryz.underlying29 hi0101 1 hsz101 Ao51 t561.length co51 x24_5 q0101 q101; have hr101 := Kd.C_drop (m := (x24_5 : Int).toNat) (c := co51) hC101 (by omega) hroom101; obtain ⟨A101, hA101⟩ : ∃ A1, A1 = (if co51 = (x24_5 : Int).toNat then Ao51 else (Ao51 : Option Addr).map (·.add ((x24_5 : Int).toNat * 1))) := ⟨_, rfl⟩; obtain ⟨c101, hc101⟩ : ∃ c1, c1 = co51 - (x24_5 : Int).toNat := ⟨_, rfl⟩; have hy101 : y592.length = t561.length - (x24_5 : Int).toNat := (zr67); rw [show (t561).drop (x24_5 : Int).toNat = y592 from Ny592.out.symm] at hr101; replace hr101 : Kd.C (Kd.int .i64) _ A101 y592.length y592 := (by rw [hA101]; exact hr101); rw [← hy101, ← hA101, ← hc101] at hcut101; have HR595 := Aside0.mk hr101; have HC595 := Aside0.mk (show y592.length ≤ c101 from by rw [hy101, hc101]; exact Nat.sub_le_sub_right hroom101 _); clear hr101 hC101 hroom101 hi0101 hsz101 hc101; have KY101 := Aside0.mk hy101; have KA101 := Aside0.mk hA101; clear hy101 hA101; have KL101 := Aside0.mk (show (x24_5 : Int).toNat ≤ t561.length from by omega); replace q101 := eq_true q101) | (go_at_call 16; (with_reducible refine (dialtoneref22_Ints.calls k5 _ _ t582 _ _ y592 true _ ?side1 ?side2 ?side3 ?side4 A86.out).mono ?_); (case side1 => exact zr68); (case side2 => exact zr69); (case side3 => exact zr70); (case side4 => exact HC595.out); rintro e w' ⟨rfl, ⟨nd, rfl⟩⟩; (try first | exact ⟨rfl, _, World.drewN_drewN _ _ _⟩ | exact ⟨rfl, _, Eq.trans (World.drewN_drewN _ _ _) (congrArg (World.drewN _) (Nat.add_assoc _ _ _))⟩)))
           repeat (go_quiet (first | (go_at_call 11; (with_reducible refine (forward_Resolve.calls _ _ t529 _ _ t532 (rd t558 x24_5) t537 t578 t579 t582 t585 _ ?side1 ?side2 ?side3 ?side4 A77.out).mono ?_); (case side1 => exact zr13); (case side2 => exact zr14); (case side3 => exact zr15); (case side4 => exact zr16); rintro e w90 ⟨v580, v583, rfl, ho0, ho1, hb⟩; replace HO_14 := Aside0.mk (Kd.R_below (zR HO_14) hb); replace HO_15 := Aside0.mk (Kd.R_below (zR HO_15) hb); have HO581 := Aside0.mk (Kd.R_lower (Kd.R_new' (Kd.R_new' (Kd.R_new' (Kd.R_new' ho0 (Kd.R_lt (zR HO_566001))) (Kd.R_lt (zR HO_566002))) (Kd.R_lt (zR HO_575001))) (Kd.R_lt (zR HO_575002))) (below_size (zW HB))); have HO584 := Aside0.mk (Kd.R_lower (Kd.R_new' (Kd.R_new' (Kd.R_new' (Kd.R_new' ho1 (Kd.R_lt (zR HO_566001))) (Kd.R_lt (zR HO_566002))) (Kd.R_lt (zR HO_575001))) (Kd.R_lt (zR HO_575002))) (below_size (zW HB))); replace HO_566001 := Aside0.mk (Kd.R_mono (Kd.R_told (Kd.R_told (Kd.R_old (zR HO_566001) hb) (Kd.R_base ho0)) (Kd.R_base ho1)) (fun _ h_ => h_.1)); replace HO_566002 := Aside0.mk (Kd.R_mono (Kd.R_told (Kd.R_told (Kd.R_old (zR HO_566002) hb) (Kd.R_base ho0)) (Kd.R_base ho1)) (fun _ h_ => h_.1)); replace HO_575001 := Aside0.mk (Kd.R_mono (Kd.R_told (Kd.R_told (Kd.R_old (zR HO_575001) hb) (Kd.R_base ho0)) (Kd.R_base ho1)) (fun _ h_ => h_.1)); replace HO_575002 := Aside0.mk (Kd.R_mono (Kd.R_told (Kd.R_told (Kd.R_old (zR HO_575002) hb) (Kd.R_base ho0)) (Kd.R_base ho1)) (fun _ h_ => h_.1)); replace BK565 := Aside0.mk (blk_below (zB BK565) hb); replace BK574 := Aside0.mk (blk_below (zB BK574) hb); replace HB := Aside0.mk (below_step (zW HB) hb); (try clear hb); (try clear hb2); (try clear hk); (try clear hi); (try clear ho0); (try clear ho1)) | ((with_reducible refine gate_dst (N := 25) rfl ?_); refine box_event ?hg (N := 25) ?hd (cs := #[.int .i64 0, .slice none 0 0, .slice none 0 0]) (t := 31) ?hr ?_; (case hd => rfl); (case hg => rfl); (case hr => exact zq4); intro gb586 hg w91 hbox hb; replace HO_14 := Aside0.mk (Kd.R_below (zR HO_14) hb); replace HO_15 := Aside0.mk (Kd.R_below (zR HO_15) hb); replace HO_566001 := Aside0.mk (Kd.R_below (zR HO_566001) hb); replace HO_566002 := Aside0.mk (Kd.R_below (zR HO_566002) hb); replace HO_575001 := Aside0.mk (Kd.R_below (zR HO_575001) hb); replace HO_575002 := Aside0.mk (Kd.R_below (zR HO_575002) hb); replace HO581 := Aside0.mk (Kd.R_below (zR HO581) hb); replace HO584 := Aside0.mk (Kd.R_below (zR HO584) hb); have BK586 := Aside0.mk (hbox); have GW586 := Aside0.mk ((zq5 : w.heap.size ≤ gb586)); have GE586 := Aside0.mk ((zq5 : w.heap.size ≤ gb586)); replace HB := Aside0.mk (below_step (zW HB) hb); have NB565_586 := Aside0.mk ((zr28 : gb565 ≠ gb586)); have NB586_565 := Aside0.mk ((zr29 : gb586 ≠ gb565)); replace BK565 := Aside0.mk (blk_below (zB BK565) hb); have NB574_586 := Aside0.mk ((zr38 : gb574 ≠ gb586)); have NB586_574 := Aside0.mk ((zr39 : gb586 ≠ gb574)); replace BK574 := Aside0.mk (blk_below (zB BK574) hb); clear hb hbox hg; have hnb92 := NB586_565.out; have hnc92 := NB565_586.out; have hnb93 := NB586_574.out; have hnc93 := NB574_586.out; have hcz94_0 : w91.cell? ⟨gb586, 0, none⟩ = some (.int .i64 0) := (blk_cell BK586.out 0).trans rfl; have hcz94_1 : w91.cell? ⟨gb586, 1, none⟩ = some (.slice none 0 0) := (blk_cell BK586.out 1).trans rfl; have hcz94_2 : w91.cell? ⟨gb586, 2, none⟩ = some (.slice none 0 0) := (blk_cell BK586.out 2).trans rfl; have hfz94_0 := blk_frozen BK586.out 0; have hfz94_1 := blk_frozen BK586.out 1; have hfz94_2 := blk_frozen BK586.out 2; obtain ⟨Ao95, co95, eo95⟩ := Kd.R_slice HO581.out; subst eo95; obtain ⟨Ao96, co96, eo96⟩ := Kd.R_slice HO584.out; subst eo96) | ((with_reducible refine gate_store (t := 31) (p := 25) rfl ?_); (try (rw [drewN_self w91]; generalize hq_ : World.drewN w91 _ = w91; replace HO_14 := Aside0.mk (Kd.R_at hq_ HO_14.out); replace HO_15 := Aside0.mk (Kd.R_at hq_ HO_15.out); replace HO_566001 := Aside0.mk (Kd.R_at hq_ HO_566001.out); replace HO_566002 := Aside0.mk (Kd.R_at hq_ HO_566002.out); replace HO_575001 := Aside0.mk (Kd.R_at hq_ HO_575001.out); replace HO_575002 := Aside0.mk (Kd.R_at hq_ HO_575002.out); replace HO581 := Aside0.mk (Kd.R_at hq_ HO581.out); replace HO584 := Aside0.mk (Kd.R_at hq_ HO584.out); replace BK565 := Aside0.mk (blk_at hq_ BK565.out); replace BK574 := Aside0.mk (blk_at hq_ BK574.out); replace BK586 := Aside0.mk (blk_at hq_ BK586.out); replace HB := Aside0.mk (below_at hq_ HB.out); clear hq_)); refine store_event (t := 31) (p := 25) (v := ?vo_w97) (w1 := (((w91.setCell ⟨gb586, 0, none⟩ (.int .i64 t578)).setCell ⟨gb586, 1, none⟩ (.slice Ao95 t579.length co95)).setCell ⟨gb586, 2, none⟩ (.slice Ao96 t582.length co96))) ?hg ?ho ?hn ?hr ?_; (case ho => rfl); (case hg => rfl); (case hn => rfl); (case hr => exact zq4); intro w97 hw; replace HO_14 : Aside0 (Kd.R k41 41 w97 w.heap.size (fun _ => True) (.slice Ao46 t529.length co46) t529) := ⟨(zr40)⟩; replace HO_15 : Aside0 (Kd.R k37 37 w97 w.heap.size (fun _ => True) (.slice Ao38 t532.length co38) t532) := ⟨(zr42)⟩; replace HO_566001 : Aside0 (Kd.R (Kd.int .i64) 3 w97 w.heap.size (fun k_ => some k_ ≠ (.slice Ao51 t561.length co51 : Value).ownBlock ∧ some k_ ≠ (.slice Ao57 t567.length co57 : Value).ownBlock ∧ some k_ ≠ (.slice Ao58 t570.length co58 : Value).ownBlock ∧ some k_ ≠ (.slice Ao95 t579.length co95 : Value).ownBlock ∧ some k_ ≠ (.slice Ao96 t582.length co96 : Value).ownBlock) (.slice (some ad577) t558.length co50) t558) := ⟨(zr44)⟩; replace HO_566002 : Aside0 (Kd.R (Kd.int .i64) 3 w97 w.heap.size (fun k_ => some k_ ≠ (.slice (some ad577) t558.length co50 : Value).ownBlock ∧ some k_ ≠ (.slice Ao57 t567.length co57 : Value).ownBlock ∧ some k_ ≠ (.slice Ao58 t570.length co58 : Value).ownBlock ∧ some k_ ≠ (.slice Ao95 t579.length co95 : Value).ownBlock ∧ some k_ ≠ (.slice Ao96 t582.length co96 : Value).ownBlock) (.slice Ao51 t561.length co51) t561) := ⟨(zr46)⟩; replace HO_575001 : Aside0 (Kd.R (Kd.int .i64) 3 w97 w.heap.size (fun k_ => some k_ ≠ (.slice (some ad577) t558.length co50 : Value).ownBlock ∧ some k_ ≠ (.slice Ao51 t561.length co51 : Value).ownBlock ∧ some k_ ≠ (.slice Ao58 t570.length co58 : Value).ownBlock ∧ some k_ ≠ (.slice Ao95 t579.length co95 : Value).ownBlock ∧ some k_ ≠ (.slice Ao96 t582.length co96 : Value).ownBlock) (.slice Ao57 t567.length co57) t567) := ⟨(zr48)⟩; replace HO_575002 : Aside0 (Kd.R (Kd.int .i64) 3 w97 w.heap.size (fun k_ => some k_ ≠ (.slice (some ad577) t558.length co50 : Value).ownBlock ∧ some k_ ≠ (.slice Ao51 t561.length co51 : Value).ownBlock ∧ some k_ ≠ (.slice Ao57 t567.length co57 : Value).ownBlock ∧ some k_ ≠ (.slice Ao95 t579.length co95 : Value).ownBlock ∧ some k_ ≠ (.slice Ao96 t582.length co96 : Value).ownBlock) (.slice Ao58 t570.length co58) t570) := ⟨(zr50)⟩; replace HO581 : Aside0 (Kd.R (Kd.int .i64) 3 w97 w.heap.size (fun k_ => some k_ ≠ (.slice (some ad577) t558.length co50 : Value).ownBlock ∧ some k_ ≠ (.slice Ao51 t561.length co51 : Value).ownBlock ∧ some k_ ≠ (.slice Ao57 t567.length co57 : Value).ownBlock ∧ some k_ ≠ (.slice Ao58 t570.length co58 : Value).ownBlock ∧ some k_ ≠ (.slice Ao96 t582.length co96 : Value).ownBlock) (.slice Ao95 t579.length co95) t579) := ⟨(zr52)⟩; replace HO584 : Aside0 (Kd.R (Kd.int .i64) 3 w97 w.heap.size (fun k_ => some k_ ≠ (.slice (some ad577) t558.length co50 : Value).ownBlock ∧ some k_ ≠ (.slice Ao51 t561.length co51 : Value).ownBlock ∧ some k_ ≠ (.slice Ao57 t567.length co57 : Value).ownBlock ∧ some k_ ≠ (.slice Ao58 t570.length co58 : Value).ownBlock ∧ some k_ ≠ (.slice Ao95 t579.length co95 : Value).ownBlock) (.slice Ao96 t582.length co96) t582) := ⟨(zr54)⟩; replace BK565 : Aside0 (w97.heap[gb565]? = some (.cells #[.int .i64 t557, .slice (some ad577) t558.length co50, .slice Ao51 t561.length co51] 31 (0, 0))) := ⟨(zr56)⟩; replace BK574 : Aside0 (w97.heap[gb574]? = some (.cells #[.int .i64 t566, .slice Ao57 t567.length co57, .slice Ao58 t570.length co58] 31 (0, 0))) := ⟨(zr58)⟩; replace BK586 : Aside0 (w97.heap[gb586]? = some (.cells #[.int .i64 t578, .slice Ao95 t579.length co95, .slice Ao96 t582.length co96] 31 (0, 0))) := ⟨(zr60)⟩; replace HB : Aside0 (Below w.heap.size w w97) := ⟨(by rw [hw]; exact (zW HB))⟩; clear hw; have hcz98_0 : w97.cell? ⟨gb586, 0, none⟩ = some (.int .i64 t578) := (blk_cell BK586.out 0).trans rfl; have hcz98_1 : w97.cell? ⟨gb586, 1, none⟩ = some (.slice Ao95 t579.length co95) := (blk_cell BK586.out 1).trans rfl; have hcz98_2 : w97.cell? ⟨gb586, 2, none⟩ = some (.slice Ao96 t582.length co96) := (blk_cell BK586.out 2).trans rfl; have hfz98_0 := blk_frozen BK586.out 0; have hfz98_1 := blk_frozen BK586.out 1; have hfz98_2 := blk_frozen BK586.out 2; have hcz99_0 : w97.cell? ⟨gb565, 0, none⟩ = some (.int .i64 t557) := (blk_cell BK565.out 0).trans rfl; have hcz99_1 : w97.cell? ⟨gb565, 1, none⟩ = some (.slice (some ad577) t558.length co50) := (blk_cell BK565.out 1).trans rfl; have hcz99_2 : w97.cell? ⟨gb565, 2, none⟩ = some (.slice Ao51 t561.length co51) := (blk_cell BK565.out 2).trans rfl; have hfz99_0 := blk_frozen BK565.out 0; have hfz99_1 := blk_frozen BK565.out 1; have hfz99_2 := blk_frozen BK565.out 2; have q100 : (x24_5 : Int) ≤ ((t558.length : Int) : Int) := of_decide_eq_true (zq9); obtain ⟨i0100, hi0100, _, hsz100, _⟩ := info_parts info3; have hroom100 : t558.length ≤ co50 := (Kd.R_reads' HO_566001.out).2.1; have hC100 : Kd.C (Kd.int .i64) _ (some ad577) t558.length t558 := (Kd.R_reads' HO_566001.out).2.2; have q0100 : (0 : Int) ≤ (x24_5 : Int) := of_decide_eq_true (zq9); have hcut100 := cut_from (P := Tryz.prog) 29 3 .i64 Tryz.underlying29 hi0100 1 hsz100 (some ad577) t558.length co50 x24_5 q0100 q100; have hr100 := Kd.C_drop (m := (x24_5 : Int).toNat) (c := co50) hC100 (by omega) hroom100; obtain ⟨A100, hA100⟩ : ∃ A1, A1 = (if co50 = (x24_5 : Int).toNat then (some ad577) else ((some ad577) : Option Addr).map (·.add ((x24_5 : Int).toNat * 1))) := ⟨_, rfl⟩; obtain ⟨c100, hc100⟩ : ∃ c1, c1 = co50 - (x24_5 : Int).toNat := ⟨_, rfl⟩; have hy100 : y587.length = t558.length - (x24_5 : Int).toNat := (zr62); rw [show (t558).drop (x24_5 : Int).toNat = y587 from Ny587.out.symm] at hr100; replace hr100 : Kd.C (Kd.int .i64) _ A100 y587.length y587 := (by rw [hA100]; exact hr100); rw [← hy100, ← hA100, ← hc100] at hcut100; have HR590 := Aside0.mk hr100; have HC590 := Aside0.mk (show y587.length ≤ c100 from by rw [hy100, hc100]; exact Nat.sub_le_sub_right hroom100 _); clear hr100 hC100 hroom100 hi0100 hsz100 hc100; have KY100 := Aside0.mk hy100; have KA100 := Aside0.mk hA100; clear hy100 hA100; have KL100 := Aside0.mk (show (x24_5 : Int).toNat ≤ t558.length from by omega); replace q100 := eq_true q100) | (go_at_call 16; (with_reducible refine (dialtoneref22_Ints.calls k5 _ _ t579 _ _ y587 true _ ?side1 ?side2 ?side3 ?side4 A82.out).mono ?_); (case side1 => exact zr63); (case side2 => exact zr64); (case side3 => exact zr65); (case side4 => exact HC590.out); rintro e w' ⟨rfl, ⟨nd, rfl⟩⟩; (try first | exact ⟨rfl, _, World.drewN_drewN _ _ _⟩ | exact ⟨rfl, _, Eq.trans (World.drewN_drewN _ _ _) (congrArg (World.drewN _) (Nat.add_assoc _ _ _))⟩); have q101 : (x24_5 : Int) ≤ ((t561.length : Int) : Int) := of_decide_eq_true (zq9); obtain ⟨i0101, hi0101, _, hsz101, _⟩ := info_parts info3; have hroom101 : t561.length ≤ co51 := (Kd.R_reads' HO_566002.out).2.1; have hC101 : Kd.C (Kd.int .i64) _ Ao51 t561.length t561 := (Kd.R_reads' HO_566002.out).2.2; have q0101 : (0 : Int) ≤ (x24_5 : Int) := of_decide_eq_true (zq9); have hcut101 := cut_from (P := Tryz.prog) 29 3 .i64 Tryz.underlying29 hi0101 1 hsz101 Ao51 t561.length co51 x24_5 q0101 q101; have hr101 := Kd.C_drop (m := (x24_5 : Int).toNat) (c := co51) hC101 (by omega) hroom101; obtain ⟨A101, hA101⟩ : ∃ A1, A1 = (if co51 = (x24_5 : Int).toNat then Ao51 else (Ao51 : Option Addr).map (·.add ((x24_5 : Int).toNat * 1))) := ⟨_, rfl⟩; obtain ⟨c101, hc101⟩ : ∃ c1, c1 = co51 - (x24_5 : Int).toNat := ⟨_, rfl⟩; have hy101 : y592.length = t561.length - (x24_5 : Int).toNat := (zr67); rw [show (t561).drop (x24_5 : Int).toNat = y592 from Ny592.out.symm] at hr101; replace hr101 : Kd.C (Kd.int .i64) _ A101 y592.length y592 := (by rw [hA101]; exact hr101); rw [← hy101, ← hA101, ← hc101] at hcut101; have HR595 := Aside0.mk hr101; have HC595 := Aside0.mk (show y592.length ≤ c101 from by rw [hy101, hc101]; exact Nat.sub_le_sub_right hroom101 _); clear hr101 hC101 hroom101 hi0101 hsz101 hc101; have KY101 := Aside0.mk hy101; have KA101 := Aside0.mk hA101; clear hy101 hA101; have KL101 := Aside0.mk (show (x24_5 : Int).toNat ≤ t561.length from by omega); replace q101 := eq_true q101) | (go_at_call 16; (with_reducible refine (dialtoneref22_Ints.calls k5 _ _ t582 _ _ y592 true _ ?side1 ?side2 ?side3 ?side4 A86.out).mono ?_); (case side1 => exact zr68); (case side2 => exact zr69); (case side3 => exact zr70); (case side4 => exact HC595.out); rintro e w' ⟨rfl, ⟨nd, rfl⟩⟩; (try first | exact ⟨rfl, _, World.drewN_drewN _ _ _⟩ | exact ⟨rfl, _, Eq.trans (World.drewN_drewN _ _ _) (congrArg (World.drewN _) (Nat.add_assoc _ _ _))⟩))); try go_wp2_with (first | (go_at_call 11; (with_reducible refine (forward_Resolve.calls _ _ t529 _ _ t532 (rd t558 x24_5) t537 t578 t579 t582 t585 _ ?side1 ?side2 ?side3 ?side4 A77.out).mono ?_); (case side1 => exact zr13); (case side2 => exact zr14); (case side3 => exact zr15); (case side4 => exact zr16); rintro e w90 ⟨v580, v583, rfl, ho0, ho1, hb⟩; replace HO_14 := Aside0.mk (Kd.R_below (zR HO_14) hb); replace HO_15 := Aside0.mk (Kd.R_below (zR HO_15) hb); have HO581 := Aside0.mk (Kd.R_lower (Kd.R_new' (Kd.R_new' (Kd.R_new' (Kd.R_new' ho0 (Kd.R_lt (zR HO_566001))) (Kd.R_lt (zR HO_566002))) (Kd.R_lt (zR HO_575001))) (Kd.R_lt (zR HO_575002))) (below_size (zW HB))); have HO584 := Aside0.mk (Kd.R_lower (Kd.R_new' (Kd.R_new' (Kd.R_new' (Kd.R_new' ho1 (Kd.R_lt (zR HO_566001))) (Kd.R_lt (zR HO_566002))) (Kd.R_lt (zR HO_575001))) (Kd.R_lt (zR HO_575002))) (below_size (zW HB))); replace HO_566001 := Aside0.mk (Kd.R_mono (Kd.R_told (Kd.R_told (Kd.R_old (zR HO_566001) hb) (Kd.R_base ho0)) (Kd.R_base ho1)) (fun _ h_ => h_.1)); replace HO_566002 := Aside0.mk (Kd.R_mono (Kd.R_told (Kd.R_told (Kd.R_old (zR HO_566002) hb) (Kd.R_base ho0)) (Kd.R_base ho1)) (fun _ h_ => h_.1)); replace HO_575001 := Aside0.mk (Kd.R_mono (Kd.R_told (Kd.R_told (Kd.R_old (zR HO_575001) hb) (Kd.R_base ho0)) (Kd.R_base ho1)) (fun _ h_ => h_.1)); replace HO_575002 := Aside0.mk (Kd.R_mono (Kd.R_told (Kd.R_told (Kd.R_old (zR HO_575002) hb) (Kd.R_base ho0)) (Kd.R_base ho1)) (fun _ h_ => h_.1)); replace BK565 := Aside0.mk (blk_below (zB BK565) hb); replace BK574 := Aside0.mk (blk_below (zB BK574) hb); replace HB := Aside0.mk (below_step (zW HB) hb); (try clear hb); (try clear hb2); (try clear hk); (try clear hi); (try clear ho0); (try clear ho1)) | ((with_reducible refine gate_dst (N := 25) rfl ?_); refine box_event ?hg (N := 25) ?hd (cs := #[.int .i64 0, .slice none 0 0, .slice none 0 0]) (t := 31) ?hr ?_; (case hd => rfl); (case hg => rfl); (case hr => exact zq4); intro gb586 hg w91 hbox hb; replace HO_14 := Aside0.mk (Kd.R_below (zR HO_14) hb); replace HO_15 := Aside0.mk (Kd.R_below (zR HO_15) hb); replace HO_566001 := Aside0.mk (Kd.R_below (zR HO_566001) hb); replace HO_566002 := Aside0.mk (Kd.R_below (zR HO_566002) hb); replace HO_575001 := Aside0.mk (Kd.R_below (zR HO_575001) hb); replace HO_575002 := Aside0.mk (Kd.R_below (zR HO_575002) hb); replace HO581 := Aside0.mk (Kd.R_below (zR HO581) hb); replace HO584 := Aside0.mk (Kd.R_below (zR HO584) hb); have BK586 := Aside0.mk (hbox); have GW586 := Aside0.mk ((zq5 : w.heap.size ≤ gb586)); have GE586 := Aside0.mk ((zq5 : w.heap.size ≤ gb586)); replace HB := Aside0.mk (below_step (zW HB) hb); have NB565_586 := Aside0.mk ((zr28 : gb565 ≠ gb586)); have NB586_565 := Aside0.mk ((zr29 : gb586 ≠ gb565)); replace BK565 := Aside0.mk (blk_below (zB BK565) hb); have NB574_586 := Aside0.mk ((zr38 : gb574 ≠ gb586)); have NB586_574 := Aside0.mk ((zr39 : gb586 ≠ gb574)); replace BK574 := Aside0.mk (blk_below (zB BK574) hb); clear hb hbox hg; have hnb92 := NB586_565.out; have hnc92 := NB565_586.out; have hnb93 := NB586_574.out; have hnc93 := NB574_586.out; have hcz94_0 : w91.cell? ⟨gb586, 0, none⟩ = some (.int .i64 0) := (blk_cell BK586.out 0).trans rfl; have hcz94_1 : w91.cell? ⟨gb586, 1, none⟩ = some (.slice none 0 0) := (blk_cell BK586.out 1).trans rfl; have hcz94_2 : w91.cell? ⟨gb586, 2, none⟩ = some (.slice none 0 0) := (blk_cell BK586.out 2).trans rfl; have hfz94_0 := blk_frozen BK586.out 0; have hfz94_1 := blk_frozen BK586.out 1; have hfz94_2 := blk_frozen BK586.out 2; obtain ⟨Ao95, co95, eo95⟩ := Kd.R_slice HO581.out; subst eo95; obtain ⟨Ao96, co96, eo96⟩ := Kd.R_slice HO584.out; subst eo96) | ((with_reducible refine gate_store (t := 31) (p := 25) rfl ?_); (try (rw [drewN_self w91]; generalize hq_ : World.drewN w91 _ = w91; replace HO_14 := Aside0.mk (Kd.R_at hq_ HO_14.out); replace HO_15 := Aside0.mk (Kd.R_at hq_ HO_15.out); replace HO_566001 := Aside0.mk (Kd.R_at hq_ HO_566001.out); replace HO_566002 := Aside0.mk (Kd.R_at hq_ HO_566002.out); replace HO_575001 := Aside0.mk (Kd.R_at hq_ HO_575001.out); replace HO_575002 := Aside0.mk (Kd.R_at hq_ HO_575002.out); replace HO581 := Aside0.mk (Kd.R_at hq_ HO581.out); replace HO584 := Aside0.mk (Kd.R_at hq_ HO584.out); replace BK565 := Aside0.mk (blk_at hq_ BK565.out); replace BK574 := Aside0.mk (blk_at hq_ BK574.out); replace BK586 := Aside0.mk (blk_at hq_ BK586.out); replace HB := Aside0.mk (below_at hq_ HB.out); clear hq_)); refine store_event (t := 31) (p := 25) (v := ?vo_w97) (w1 := (((w91.setCell ⟨gb586, 0, none⟩ (.int .i64 t578)).setCell ⟨gb586, 1, none⟩ (.slice Ao95 t579.length co95)).setCell ⟨gb586, 2, none⟩ (.slice Ao96 t582.length co96))) ?hg ?ho ?hn ?hr ?_; (case ho => rfl); (case hg => rfl); (case hn => rfl); (case hr => exact zq4); intro w97 hw; replace HO_14 : Aside0 (Kd.R k41 41 w97 w.heap.size (fun _ => True) (.slice Ao46 t529.length co46) t529) := ⟨(zr40)⟩; replace HO_15 : Aside0 (Kd.R k37 37 w97 w.heap.size (fun _ => True) (.slice Ao38 t532.length co38) t532) := ⟨(zr42)⟩; replace HO_566001 : Aside0 (Kd.R (Kd.int .i64) 3 w97 w.heap.size (fun k_ => some k_ ≠ (.slice Ao51 t561.length co51 : Value).ownBlock ∧ some k_ ≠ (.slice Ao57 t567.length co57 : Value).ownBlock ∧ some k_ ≠ (.slice Ao58 t570.length co58 : Value).ownBlock ∧ some k_ ≠ (.slice Ao95 t579.length co95 : Value).ownBlock ∧ some k_ ≠ (.slice Ao96 t582.length co96 : Value).ownBlock) (.slice (some ad577) t558.length co50) t558) := ⟨(zr44)⟩; replace HO_566002 : Aside0 (Kd.R (Kd.int .i64) 3 w97 w.heap.size (fun k_ => some k_ ≠ (.slice (some ad577) t558.length co50 : Value).ownBlock ∧ some k_ ≠ (.slice Ao57 t567.length co57 : Value).ownBlock ∧ some k_ ≠ (.slice Ao58 t570.length co58 : Value).ownBlock ∧ some k_ ≠ (.slice Ao95 t579.length co95 : Value).ownBlock ∧ some k_ ≠ (.slice Ao96 t582.length co96 : Value).ownBlock) (.slice Ao51 t561.length co51) t561) := ⟨(zr46)⟩; replace HO_575001 : Aside0 (Kd.R (Kd.int .i64) 3 w97 w.heap.size (fun k_ => some k_ ≠ (.slice (some ad577) t558.length co50 : Value).ownBlock ∧ some k_ ≠ (.slice Ao51 t561.length co51 : Value).ownBlock ∧ some k_ ≠ (.slice Ao58 t570.length co58 : Value).ownBlock ∧ some k_ ≠ (.slice Ao95 t579.length co95 : Value).ownBlock ∧ some k_ ≠ (.slice Ao96 t582.length co96 : Value).ownBlock) (.slice Ao57 t567.length co57) t567) := ⟨(zr48)⟩; replace HO_575002 : Aside0 (Kd.R (Kd.int .i64) 3 w97 w.heap.size (fun k_ => some k_ ≠ (.slice (some ad577) t558.length co50 : Value).ownBlock ∧ some k_ ≠ (.slice Ao51 t561.length co51 : Value).ownBlock ∧ some k_ ≠ (.slice Ao57 t567.length co57 : Value).ownBlock ∧ some k_ ≠ (.slice Ao95 t579.length co95 : Value).ownBlock ∧ some k_ ≠ (.slice Ao96 t582.length co96 : Value).ownBlock) (.slice Ao58 t570.length co58) t570) := ⟨(zr50)⟩; replace HO581 : Aside0 (Kd.R (Kd.int .i64) 3 w97 w.heap.size (fun k_ => some k_ ≠ (.slice (some ad577) t558.length co50 : Value).ownBlock ∧ some k_ ≠ (.slice Ao51 t561.length co51 : Value).ownBlock ∧ some k_ ≠ (.slice Ao57 t567.length co57 : Value).ownBlock ∧ some k_ ≠ (.slice Ao58 t570.length co58 : Value).ownBlock ∧ some k_ ≠ (.slice Ao96 t582.length co96 : Value).ownBlock) (.slice Ao95 t579.length co95) t579) := ⟨(zr52)⟩; replace HO584 : Aside0 (Kd.R (Kd.int .i64) 3 w97 w.heap.size (fun k_ => some k_ ≠ (.slice (some ad577) t558.length co50 : Value).ownBlock ∧ some k_ ≠ (.slice Ao51 t561.length co51 : Value).ownBlock ∧ some k_ ≠ (.slice Ao57 t567.length co57 : Value).ownBlock ∧ some k_ ≠ (.slice Ao58 t570.length co58 : Value).ownBlock ∧ some k_ ≠ (.slice Ao95 t579.length co95 : Value).ownBlock) (.slice Ao96 t582.length co96) t582) := ⟨(zr54)⟩; replace BK565 : Aside0 (w97.heap[gb565]? = some (.cells #[.int .i64 t557, .slice (some ad577) t558.length co50, .slice Ao51 t561.length co51] 31 (0, 0))) := ⟨(zr56)⟩; replace BK574 : Aside0 (w97.heap[gb574]? = some (.cells #[.int .i64 t566, .slice Ao57 t567.length co57, .slice Ao58 t570.length co58] 31 (0, 0))) := ⟨(zr58)⟩; replace BK586 : Aside0 (w97.heap[gb586]? = some (.cells #[.int .i64 t578, .slice Ao95 t579.length co95, .slice Ao96 t582.length co96] 31 (0, 0))) := ⟨(zr60)⟩; replace HB : Aside0 (Below w.heap.size w w97) := ⟨(by rw [hw]; exact (zW HB))⟩; clear hw; have hcz98_0 : w97.cell? ⟨gb586, 0, none⟩ = some (.int .i64 t578) := (blk_cell BK586.out 0).trans rfl; have hcz98_1 : w97.cell? ⟨gb586, 1, none⟩ = some (.slice Ao95 t579.length co95) := (blk_cell BK586.out 1).trans rfl; have hcz98_2 : w97.cell? ⟨gb586, 2, none⟩ = some (.slice Ao96 t582.length co96) := (blk_cell BK586.out 2).trans rfl; have hfz98_0 := blk_frozen BK586.out 0; have hfz98_1 := blk_frozen BK586.out 1; have hfz98_2 := blk_frozen BK586.out 2; have hcz99_0 : w97.cell? ⟨gb565, 0, none⟩ = some (.int .i64 t557) := (blk_cell BK565.out 0).trans rfl; have hcz99_1 : w97.cell? ⟨gb565, 1, none⟩ = some (.slice (some ad577) t558.length co50) := (blk_cell BK565.out 1).trans rfl; have hcz99_2 : w97.cell? ⟨gb565, 2, none⟩ = some (.slice Ao51 t561.length co51) := (blk_cell BK565.out 2).trans rfl; have hfz99_0 := blk_frozen BK565.out 0; have hfz99_1 := blk_frozen BK565.out 1; have hfz99_2 := blk_frozen BK565.out 2; have q100 : (x24_5 : Int) ≤ ((t558.length : Int) : Int) := of_decide_eq_true (zq9); obtain ⟨i0100, hi0100, _, hsz100, _⟩ := info_parts info3; have hroom100 : t558.length ≤ co50 := (Kd.R_reads' HO_566001.out).2.1; have hC100 : Kd.C (Kd.int .i64) _ (some ad577) t558.length t558 := (Kd.R_reads' HO_566001.out).2.2; have q0100 : (0 : Int) ≤ (x24_5 : Int) := of_decide_eq_true (zq9); have hcut100 := cut_from (P := Tryz.prog) 29 3 .i64 Tryz.underlying29 hi0100 1 hsz100 (some ad577) t558.length co50 x24_5 q0100 q100; have hr100 := Kd.C_drop (m := (x24_5 : Int).toNat) (c := co50) hC100 (by omega) hroom100; obtain ⟨A100, hA100⟩ : ∃ A1, A1 = (if co50 = (x24_5 : Int).toNat then (some ad577) else ((some ad577) : Option Addr).map (·.add ((x24_5 : Int).toNat * 1))) := ⟨_, rfl⟩; obtain ⟨c100, hc100⟩ : ∃ c1, c1 = co50 - (x24_5 : Int).toNat := ⟨_, rfl⟩; have hy100 : y587.length = t558.length - (x24_5 : Int).toNat := (zr62); rw [show (t558).drop (x24_5 : Int).toNat = y587 from Ny587.out.symm] at hr100; replace hr100 : Kd.C (Kd.int .i64) _ A100 y587.length y587 := (by rw [hA100]; exact hr100); rw [← hy100, ← hA100, ← hc100] at hcut100; have HR590 := Aside0.mk hr100; have HC590 := Aside0.mk (show y587.length ≤ c100 from by rw [hy100, hc100]; exact Nat.sub_le_sub_right hroom100 _); clear hr100 hC100 hroom100 hi0100 hsz100 hc100; have KY100 := Aside0.mk hy100; have KA100 := Aside0.mk hA100; clear hy100 hA100; have KL100 := Aside0.mk (show (x24_5 : Int).toNat ≤ t558.length from by omega); replace q100 := eq_true q100) | (go_at_call 16; (with_reducible refine (dialtoneref22_Ints.calls k5 _ _ t579 _ _ y587 true _ ?side1 ?side2 ?side3 ?side4 A82.out).mono ?_); (case side1 => exact zr63); (case side2 => exact zr64); (case side3 => exact zr65); (case side4 => exact HC590.out); rintro e w' ⟨rfl, ⟨nd, rfl⟩⟩; (try first | exact ⟨rfl, _, World.drewN_drewN _ _ _⟩ | exact ⟨rfl, _, Eq.trans (World.drewN_drewN _ _ _) (congrArg (World.drewN _) (Nat.add_assoc _ _ _))⟩); have q101 : (x24_5 : Int) ≤ ((t561.length : Int) : Int) := of_decide_eq_true (zq9); obtain ⟨i0101, hi0101, _, hsz101, _⟩ := info_parts info3; have hroom101 : t561.length ≤ co51 := (Kd.R_reads' HO_566002.out).2.1; have hC101 : Kd.C (Kd.int .i64) _ Ao51 t561.length t561 := (Kd.R_reads' HO_566002.out).2.2; have q0101 : (0 : Int) ≤ (x24_5 : Int) := of_decide_eq_true (zq9); have hcut101 := cut_from (P := Tryz.prog) 29 3 .i64 Tryz.underlying29 hi0101 1 hsz101 Ao51 t561.length co51 x24_5 q0101 q101; have hr101 := Kd.C_drop (m := (x24_5 : Int).toNat) (c := co51) hC101 (by omega) hroom101; obtain ⟨A101, hA101⟩ : ∃ A1, A1 = (if co51 = (x24_5 : Int).toNat then Ao51 else (Ao51 : Option Addr).map (·.add ((x24_5 : Int).toNat * 1))) := ⟨_, rfl⟩; obtain ⟨c101, hc101⟩ : ∃ c1, c1 = co51 - (x24_5 : Int).toNat := ⟨_, rfl⟩; have hy101 : y592.length = t561.length - (x24_5 : Int).toNat := (zr67); rw [show (t561).drop (x24_5 : Int).toNat = y592 from Ny592.out.symm] at hr101; replace hr101 : Kd.C (Kd.int .i64) _ A101 y592.length y592 := (by rw [hA101]; exact hr101); rw [← hy101, ← hA101, ← hc101] at hcut101; have HR595 := Aside0.mk hr101; have HC595 := Aside0.mk (show y592.length ≤ c101 from by rw [hy101, hc101]; exact Nat.sub_le_sub_right hroom101 _); clear hr101 hC101 hroom101 hi0101 hsz101 hc101; have KY101 := Aside0.mk hy101; have KA101 := Aside0.mk hA101; clear hy101 hA101; have KL101 := Aside0.mk (show (x24_5 : Int).toNat ≤ t561.length from by omega); replace q101 := eq_true q101) | (go_at_call 16; (with_reducible refine (dialtoneref22_Ints.calls k5 _ _ t582 _ _ y592 true _ ?side1 ?side2 ?side3 ?side4 A86.out).mono ?_); (case side1 => exact zr68); (case side2 => exact zr69); (case side3 => exact zr70); (case side4 => exact HC595.out); rintro e w' ⟨rfl, ⟨nd, rfl⟩⟩; (try first | exact ⟨rfl, _, World.drewN_drewN _ _ _⟩ | exact ⟨rfl, _, Eq.trans (World.drewN_drewN _ _ _) (congrArg (World.drewN _) (Nat.add_assoc _ _ _))⟩))))
           go_roundg k5
           case measure => have := HK1.out; have := HJ36.out; have := HJ44.out; have := HJ60.out; have := HK5.out; omega
           case rel => exact ⟨(wrap64 (x24_5 + 1)), (zq2), H', ⟨by have := HK1.out; have := HJ36.out; have := HJ44.out; have := HJ60.out; have := HK5.out; omega⟩, ⟨zr75⟩, ⟨zr76⟩, ⟨by (with_reducible repeat (first | apply Kd.R_alloc | apply Kd.R_drewN | apply Kd.R_drew)); exact Kd.R_mono HO_566001.out (fun _ hk => ⟨hk.1, ⟨hk.2.1, hk.2.2.1⟩⟩)⟩, ⟨by (with_reducible repeat (first | apply Kd.R_alloc | apply Kd.R_drewN | apply Kd.R_drew)); exact Kd.R_mono HO_566002.out (fun _ hk => ⟨hk.1, ⟨hk.2.1, hk.2.2.1⟩⟩)⟩, ⟨by (with_reducible repeat (first | apply Kd.R_alloc | apply Kd.R_drewN | apply Kd.R_drew)); exact Kd.R_mono HO_575001.out (fun _ hk => ⟨hk.1, ⟨hk.2.1, hk.2.2.1⟩⟩)⟩, ⟨by (with_reducible repeat (first | apply Kd.R_alloc | apply Kd.R_drewN | apply Kd.R_drew)); exact Kd.R_mono HO_575002.out (fun _ hk => ⟨hk.1, ⟨hk.2.1, hk.2.2.1⟩⟩)⟩, ⟨zr95⟩, ⟨zr96⟩, ⟨by repeat (first | (with_reducible first | exact HB.out | apply below_alloc | apply pw_below_drewN | apply below_drew1 | refine below_set ?_ GE565.out | refine below_set ?_ GE574.out | refine below_set ?_ GE586.out) | exact HB.out)⟩⟩
end Go.Proofs.YtkfejgdeknemaaaGreatDoor.Fw
end
section
namespace Go.Proofs.YtkfejgdeknemaaaGreatDoor.Pure
open Go.RowKit Go.Proofs.YtkfejgdeknemaaaGreatDoorW.PrintWords Go.Proofs.YtkfejgdeknemaaaGreatDoorW.PrintLast Go.Proofs.YtkfejgdeknemaaaGreatDoorW.PrintMore Go.Proofs.YtkfejgdeknemaaaGreatDoor.Fw
set_option linter.unusedVariables false
set_option linter.unusedSimpArgs false
theorem suf (cn C : Int → Option Int) (l : List S41) : ∀ (f : Nat) (p u : List Int) (x : Int), f ≤ 6 → x ∈ p → u.length ≤ 5 → (resGo cn C l f p u x).1 < 5 →
    ∃ (k : Int) (q v : List Int), resGo cn C l f p u x = (k, p ++ q, u ++ v) ∧ k < 5 ∧ q.length = v.length ∧
      (∀ (f' : Nat) (p' u' : List Int), f ≤ f' → (∀ z ∈ p', z ∈ p) → u'.length ≤ u.length → resGo cn C l f' p' u' x = (k, p' ++ q, u' ++ v)) ∧
      ∀ (j : Nat) (h : j < (x :: q).length), resGo cn C l 6 [(x :: q)[j]] [] (x :: q)[j] = (k, (x :: q).drop j, v.drop j)
  | 0, p, u, x, _, _, _, hk => by simp [resGo] at hk
  | f + 1, p, u, x, hf, hx, hu, hk => by
    unfold resGo at hk
    cases hc : cn x with
    | none =>
      refine ⟨max ((C x).getD 0) 1, [], [], by unfold resGo; simp [hc], by simpa [hc] using hk, rfl, ?_, ?_⟩
      · intro f' p' u' hf' _ _
        obtain ⟨g, rfl⟩ : ∃ g, f' = g + 1 := ⟨f' - 1, by omega⟩
        unfold resGo
        simp [hc]
      · intro j h
        obtain rfl : j = 0 := by simpa using h
        simp only [List.getElem_cons_zero, List.drop_zero]
        unfold resGo
        simp [hc]
    | some i =>
      rw [hc] at hk
      simp only at hk
      by_cases c1 : u.length = 5
      · rw [if_pos c1] at hk; omega
      · rw [if_neg c1] at hk
        by_cases c2 : p.contains (toOf l i) = true
        · rw [if_pos c2] at hk; omega
        · rw [if_neg c2] at hk
          obtain ⟨k, q, v, h1, h2, h3, h4, h5⟩ := suf cn C l f (p ++ [toOf l i]) (u ++ [i]) (toOf l i) (by omega) (by simp) (by simp; omega) hk
          have hrest : ∀ (f' : Nat) (p' u' : List Int), f + 1 ≤ f' → (∀ z ∈ p', z ∈ p) → u'.length ≤ u.length → resGo cn C l f' p' u' x = (k, p' ++ (toOf l i :: q), u' ++ (i :: v)) := by
            intro f' p' u' hf' hp' hu'
            obtain ⟨g, rfl⟩ : ∃ g, f' = g + 1 := ⟨f' - 1, by omega⟩
            unfold resGo
            rw [hc]
            simp only
            have d1 : ¬ u'.length = 5 := by omega
            have d2 : ¬ p'.contains (toOf l i) = true := by
              intro h
              apply c2
              rw [List.contains_iff_mem] at h ⊢
              exact hp' _ h
            rw [if_neg d1, if_neg d2, h4 g _ _ (by omega) (by intro z hz; rcases List.mem_append.1 hz with hz | hz; exact List.mem_append_left _ (hp' z hz); exact List.mem_append_right _ hz) (by simp; omega)]
            simp
          refine ⟨k, toOf l i :: q, i :: v, hrest (f + 1) p u (Nat.le_refl _) (fun _ h => h) (Nat.le_refl _), h2, by simp [h3], hrest, ?_⟩
          intro j h
          match j, h with
          | 0, _ =>
            simp only [List.getElem_cons_zero, List.drop_zero]
            rw [hrest 6 [x] [] (by omega) (fun z hz => by rw [List.mem_singleton.1 hz]; exact hx) (by simp)]
            rfl
          | j + 1, h =>
            have := h5 j (by simpa using h)
            simpa using this
theorem resGo_in (cn C : Int → Option Int) (l : List S41) (P : Int → Prop) (hP : ∀ x i, cn x = some i → P (toOf l i)) : ∀ (f : Nat) (p u : List Int) (x : Int), (∀ z ∈ p, P z) → ∀ z ∈ (resGo cn C l f p u x).2.1, P z
  | 0, p, u, x, hp, z, hz => hp z (by simpa [resGo] using hz)
  | f + 1, p, u, x, hp, z, hz => by
    unfold resGo at hz
    cases hc : cn x with
    | none => rw [hc] at hz; exact hp z hz
    | some i =>
      rw [hc] at hz
      simp only at hz
      have hq : ∀ z ∈ p ++ [toOf l i], P z := by
        intro z hz
        rcases List.mem_append.1 hz with hz | hz
        · exact hp z hz
        · rw [List.mem_singleton.1 hz]; exact hP x i hc
      by_cases c1 : u.length = 5
      · rw [if_pos c1] at hz; exact hp z hz
      · rw [if_neg c1] at hz
        by_cases c2 : p.contains (toOf l i) = true
        · rw [if_pos c2] at hz; exact hq z hz
        · rw [if_neg c2] at hz
          exact resGo_in cn C l P hP f _ _ _ hq z hz
theorem cnt_spec {l : List S41} {t : Int} {C : Int → Option Int} {x i : Int} (h : cnt (gOf l t) C x = some i) : 0 ≤ i ∧ i < l.length ∧ (rd_T41 l i).f0 = x ∧ hasAt (rd_T41 l i) t = true ∧ ((rd_T41 l i).f1 = 1 ∨ (rd_T41 l i).f1 = (C x).getD 0) := by
  unfold cnt at h
  split at h
  · rename_i j hj
    obtain rfl := Option.some.inj h
    have := gOf_spec hj
    exact ⟨this.1, this.2.1, this.2.2.1, this.2.2.2.2, .inl this.2.2.2.1⟩
  · have := gOf_spec h
    exact ⟨this.1, this.2.1, this.2.2.1, this.2.2.2.2, .inr this.2.2.2.1⟩
theorem rd_mem {l : List S41} {i : Int} (h0 : 0 ≤ i) (h1 : i < l.length) : rd_T41 l i ∈ l := by
  obtain ⟨n, rfl⟩ : ∃ n : Nat, i = n := ⟨i.toNat, by omega⟩
  rw [rd41 l n (by omega)]
  exact List.getElem_mem _
theorem cnt_to {l : List S41} {t : Int} {C : Int → Option Int} (ho : ∀ s ∈ l, OneS s) : ∀ x i, cnt (gOf l t) C x = some i → 10 ≤ toOf l i ∧ toOf l i ≤ 18 := by
  intro x i h
  have h2 := cnt_spec h
  have := (ho _ (rd_mem h2.1 h2.2.1)).t
  unfold toOf
  omega
theorem res_in {l : List S41} {cs : List S37} {n t : Int} (ho : ∀ s ∈ l, OneS s) (hn : 10 ≤ n ∧ n ≤ 18) : ∀ z ∈ (resS l cs n t).2.1, 10 ≤ z ∧ z ≤ 18 :=
  resGo_in _ _ l (fun z => 10 ≤ z ∧ z ≤ 18) (cnt_to ho) 6 [n] [] n (fun z hz => by rw [List.mem_singleton.1 hz]; exact hn)
theorem setsTo_none (t x k : Int) : ∀ (l : List S41) (i : Nat) (G : Int → Int → Option Int), setsTo t l i G x k = none → G x k = none ∧ ∀ s ∈ l, ¬ (hasAt s t = true ∧ x = s.f0 ∧ k = s.f1)
  | [], _, G, h => ⟨h, fun s hs => by cases hs⟩
  | s :: ss, i, G, h => by
    obtain ⟨h1, h2⟩ := setsTo_none t x k ss (i + 1) _ h
    unfold setG at h1
    by_cases c : hasAt s t = true ∧ x = s.f0 ∧ k = s.f1
    · rw [if_pos c] at h1; cases h1
    · rw [if_neg c] at h1
      refine ⟨h1, fun r hr => ?_⟩
      rcases List.mem_cons.1 hr with rfl | hr
      · exact c
      · exact h2 r hr
def isNx (x t : Int) (s : S41) : Bool := decide (s.f0 = x) && (decide (s.f1 = 1) && hasAt s t)
def nextS (x t : Int) : List S41 → Int
  | [] => -1
  | s :: ss => if isNx x t s = true then s.f2 else nextS x t ss
theorem next_from (l : List S41) (hl : l.length < 4000000000) (x t : Int) : ∀ m i : Nat, m + i = l.length → Ev (fun k => dialtonelaw22_next.l0 k l x t (i : Int)) (nextS x t (l.drop i))
  | 0, i, hi => by
    refine Ev.step (fun k => by rw [dialtonelaw22_next.l0]) ?_
    have h1 : ¬ ((i : Int) < l.length) := by omega
    simp only [h1, if_false]
    rw [List.drop_eq_nil_of_le (by omega)]
    exact Ev.now _
  | m + 1, i, hi => by
    refine Ev.step (fun k => by rw [dialtonelaw22_next.l0]) ?_
    have h1 : ((i : Int) < l.length) := by omega
    have h2 : (0 : Int) ≤ i := by omega
    have hil : i < l.length := by omega
    have ih := next_from l hl x t m (i + 1) (by omega)
    simp only [h1, h2, if_true, rd41 l i hil, wi i (by omega), drop_at l i hil, nextS, isNx, hasAt]
    by_cases c1 : l[i].f0 = x
    · by_cases c2 : l[i].f1 = 1
      · by_cases c3 : l[i].f3.f0 ≤ t
        · by_cases c4 : t < l[i].f3.f1
          · simp only [c1, c2, c3, c4, if_true, decide_true, Bool.and_self]; exact Ev.now _
          · simp only [c1, c2, c3, c4, if_true, if_false, decide_true, decide_false, Bool.and_false, Bool.false_eq_true]; exact ih
        · simp only [c1, c2, c3, if_true, if_false, decide_true, decide_false, Bool.and_false, Bool.false_and, Bool.false_eq_true]; exact ih
      · simp only [c1, c2, if_true, if_false, decide_true, decide_false, Bool.and_false, Bool.false_and, Bool.false_eq_true]; exact ih
    · simp only [c1, if_true, if_false, decide_true, decide_false, Bool.and_false, Bool.false_and, Bool.false_eq_true]; exact ih
theorem next_ev (l : List S41) (hl : l.length < 4000000000) (x t : Int) : Ev (fun k => dialtonelaw22_next.f k l x t) (nextS x t l) := by
  have := next_from l hl x t l.length 0 (by omega)
  simpa [dialtonelaw22_next.f] using this
theorem nextS_some (x t : Int) : ∀ l : List S41, nextS x t l ≥ 0 → ∃ s ∈ l, isNx x t s = true
  | [], h => by simp [nextS] at h
  | s :: ss, h => by
    unfold nextS at h
    by_cases c : isNx x t s = true
    · exact ⟨s, List.mem_cons_self, c⟩
    · rw [if_neg c] at h
      obtain ⟨r, hr, h2⟩ := nextS_some x t ss h
      exact ⟨r, List.mem_cons_of_mem _ hr, h2⟩
theorem next_got {l : List S41} {x t : Int} (h : nextS x t l ≥ 0) : ∃ i, gOf l t x 1 = some i := by
  obtain ⟨s, hs, h2⟩ := nextS_some x t l h
  cases hg : gOf l t x 1 with
  | some i => exact ⟨i, rfl⟩
  | none =>
    have := (setsTo_none t x 1 l 0 _ hg).2 s hs
    simp only [isNx, Bool.and_eq_true, decide_eq_true_eq] at h2
    exact absurd ⟨h2.2.2, h2.1.symm, h2.2.1.symm⟩ this
theorem resGo_congr {cn cn' C C' : Int → Option Int} {l : List S41} (h1 : ∀ x, cn x = cn' x) (h2 : ∀ x, cn x = none → (C x).getD 0 = (C' x).getD 0) : ∀ (f : Nat) (p u : List Int) (x : Int), resGo cn C l f p u x = resGo cn' C' l f p u x
  | 0, p, u, x => rfl
  | f + 1, p, u, x => by
    unfold resGo
    rw [← h1 x]
    cases hc : cn x with
    | none => simp only [h2 x hc]
    | some i => simp only [resGo_congr h1 h2 f]
theorem hidden {l : List S41} {cs cs' : List S37} {n t k : Int} (hk : nextS k t l ≥ 0) (hc : ∀ x, x ≠ k → cOf cs x = cOf cs' x) : resS l cs n t = resS l cs' n t := by
  obtain ⟨i, hi⟩ := next_got hk
  unfold resS
  refine resGo_congr ?_ ?_ 6 [n] [] n
  · intro x
    unfold cnt
    by_cases hx : x = k
    · rw [hx, hi]
    · rw [hc x hx]
  · intro x hx
    by_cases e : x = k
    · rw [e] at hx; unfold cnt at hx; rw [hi] at hx; cases hx
    · rw [hc x e]
theorem consTo_app (c : S37) : ∀ (cs : List S37) (C : Int → Option Int), consTo (cs ++ [c]) C = conC c (consTo cs C)
  | [], C => rfl
  | d :: ds, C => by
    show consTo (ds ++ [c]) (conC d C) = _
    rw [consTo_app c ds]
    rfl
end Go.Proofs.YtkfejgdeknemaaaGreatDoor.Pure
end
