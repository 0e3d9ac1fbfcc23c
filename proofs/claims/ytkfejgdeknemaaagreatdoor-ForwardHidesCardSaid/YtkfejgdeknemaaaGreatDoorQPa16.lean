/- Pa: part 17 of the proof that the law's row holds: the printed walk of the program's functions, the plain law, the row. -/
import Derived.Test.YtkfejgdeknemaaaGreatDoorQPa3
import Derived.Test.YtkfejgdeknemaaaGreatDoorQPa9
import Derived.Test.YtkfejgdeknemaaaGreatDoorQPa14
section
namespace Go.Proofs.YtkfejgdeknemaaaGreatDoor.Fw
open Go.RowKit Go.Shelf Go.Proofs.YtkfejgdeknemaaaGreatDoorW.PrintWords Go.Proofs.YtkfejgdeknemaaaGreatDoorW.PrintLast Go.Proofs.YtkfejgdeknemaaaGreatDoorW.PrintMore Go.Proofs.GRange
set_option linter.unusedVariables false
set_option linter.unusedSimpArgs false
theorem grow_calls (m : Int) (hm : 0 < m) (h2 : m ≤ 100000) (w : World) :
    Calls Tryz.prog 69 #[.slice none 0 0, .int .i64 m] w fun e w' => ∃ v, e = .returned v ∧ Kd.R (Kd.int .i64) 3 w' w.heap.size (fun _ => True) v [] ∧ Below w.heap.size w w' := by
  obtain ⟨n, rfl⟩ : ∃ n : Nat, m = n := ⟨m.toNat, by omega⟩
  obtain ⟨i0, hi0, hz0, hz1, hz2⟩ := info_parts info3
  have h := Any8.slices_Grow_grow Tryz.laysGrow i0 (.int .i64 0) hi0 hz0 (by rw [hz1]; decide) none 0 0 n [] w (Nat.le_refl _) (by omega) (by rw [hz2]; omega) (by omega) (by simp) (fun _ => rfl) (fun a h => by cases h)
  refine Calls.mono h ?_
  rintro e w' ⟨rfl, rfl⟩
  refine ⟨_, rfl, ⟨fun _ _ => trivial, [], ⟨rfl, .inr ⟨w.heap.size, _, _, rfl, Nat.le_refl _, blk_new w.drew _, ?_⟩⟩, ?_⟩, below_alloc (below_drew1 (Below.refl _ _)) _⟩
  · have h1 := grownCap_ge w (0 + n) 0 (Tryz.laysGrow_ren.t 25)
    have h2 := grownCap_le_maxLen w (0 + n) 0 (Tryz.laysGrow_ren.t 25) (by unfold maxLen; omega)
    refine ⟨Nat.zero_le _, h2, ?_, by simp⟩
    generalize grownCap w (0 + n) 0 (Tryz.laysGrow_ren.t 25) = c at *
    have e1 : ∀ k, (Builtin.zeroCells (Value.int .i64 0).cells k).size = k := fun k => by simp [Builtin.zeroCells, Value.cells]
    rw [Array.size_append, Array.size_append, e1, e1]
    show (#[] : Array Value).size + (0 + n - 0) + (c - (0 + n)) = c * 1
    simp
    omega
  · exact Reps.none _ _
theorem concat_calls (g : Nat) (A1 : Option Addr) (n1 c1 : Nat) (xs : List Int) (A2 : Option Addr) (n2 c2 : Nat) (ys : List Int) (w : World) (hn1 : xs.length = n1) (hn2 : ys.length = n2) (hg : w.heap[g]? = some (.cells #[.slice A1 n1 c1, .slice A2 n2 c2] 29 (0, 0)))
    (hx : Kd.C (Kd.int .i64) w A1 xs.length xs) (hy : Kd.C (Kd.int .i64) w A2 ys.length ys) (hl : 0 < xs.length + ys.length) (hl2 : xs.length + ys.length ≤ 10000) :
    Calls Tryz.prog 55 #[.slice (some ⟨g, 0, none⟩) 2 2] w fun e w' => ∃ v, e = .returned v ∧ Kd.R (Kd.int .i64) 3 w' w.heap.size (fun _ => True) v (xs ++ ys) ∧ Below w.heap.size w w' := by
  subst hn1 hn2
  have HX := Aside0.mk hx
  have HY := Aside0.mk hy
  have HG := Aside0.mk hg
  have k0 : w.cell? ⟨g, 0, none⟩ = some (.slice A1 xs.length c1) := (blk_cell hg 0).trans rfl
  have k1 : w.cell? ⟨g, 1, none⟩ = some (.slice A2 ys.length c2) := (blk_cell hg 1).trans rfl
  clear hx hy hg
  have hb1 : (xs.length : Int) ≤ 10000 := by omega
  have hb2 : (ys.length : Int) ≤ 10000 := by omega
  have hb3 : (0 : Int) < xs.length + ys.length := by omega
  have HGR := Aside0.mk (grow_calls ((xs.length : Int) + ys.length) hb3 (by omega) w)
  go_enter Tryz.func55, Tryz.ntmps55
  go_wp2
  refine wp_loop_rounds 3 ?_
  rw [rounds_succ]
  go_wp2
  rw [rounds_succ]
  go_wp2
  rw [rounds_succ]
  have HK1 := Aside0.mk k1
  go_wp2_with (first | (go_at_call 69; refine HGR.out.mono ?_; rintro e w2 ⟨v0, rfl, hR, hb⟩; obtain ⟨Av, cv, rfl⟩ := Kd.R_slice hR; have HR0 := Aside0.mk (show Kd.R (Kd.int .i64) 3 w2 w.heap.size (fun _ => True) (.slice Av 0 cv) [] from hR); have HB0 := Aside0.mk hb; replace k0 := pw_cell_below hb k0; replace k1 := pw_cell_below hb k1; clear hR hb))
  have HX2 := Aside0.mk (Kd.C_below HX.out HB0.out)
  refine wp_loop_rounds 3 ?_
  rw [rounds_succ]
  go_wp2_with (first | ((with_reducible refine gate_builtin (b := .append) (xs := #[.tmp 31, .tmp 32]) rfl ?_); at_builtin; refine Kd.R_append_rows (Kd.int .i64) (w0 := w) w.heap.size rfl (.tmp 31) (.tmp 32) 29 3 (.int .i64 0) 8 rfl Tryz.underlying29 info3 rfl (by decide) (by omega) (.slice Av 0 cv) [] xs _ _ _ (fun _ => True) (fun _ => False) rfl rfl HR0.out HX2.out (fun _ _ h => h) (fun _ h => h.elim) (fun _ _ => trivial) HB0.out (below_size HB0.out) (by simp; omega) ?_; intro v1 w3 ho hb hg hat; rw [List.nil_append] at ho; obtain ⟨A3, c3, rfl⟩ := Kd.R_slice ho; have HR1 := Aside0.mk ho; have HB1 := Aside0.mk hb; clear ho hb hg hat))
  have HY2 := Aside0.mk (Kd.C_below HY.out HB1.out)
  have k2 := pw_cell_below HB1.out HK1.out
  clear k0 k1
  rw [rounds_succ]
  go_wp2_with (first | ((with_reducible refine gate_builtin (b := .append) (xs := #[.tmp 31, .tmp 32]) rfl ?_); at_builtin; refine Kd.R_append_rows (Kd.int .i64) (w0 := w) w.heap.size rfl (.tmp 31) (.tmp 32) 29 3 (.int .i64 0) 8 rfl Tryz.underlying29 info3 rfl (by decide) (by omega) (.slice A3 xs.length c3) xs ys _ _ _ (fun _ => True) (fun _ => False) rfl rfl HR1.out HY2.out (fun _ _ h => h) (fun _ h => h.elim) (fun _ _ => trivial) HB1.out (below_size HB1.out) (by omega) ?_; intro v2 w4 ho hb hg hat; have HR2 := Aside0.mk ho; have HB2 := Aside0.mk hb; clear ho hb hg hat))
  clear k2
  rw [rounds_succ]
  go_wp2
  go_ret
  exact ⟨_, rfl, HR2.out, HB2.out⟩
end Go.Proofs.YtkfejgdeknemaaaGreatDoor.Fw
end
section
namespace Go.Proofs.YtkfejgdeknemaaaGreatDoor.Fw
open Go.RowKit Go.Shelf Go.Proofs.YtkfejgdeknemaaaGreatDoorW.PrintWords Go.Proofs.YtkfejgdeknemaaaGreatDoorW.PrintLast Go.Proofs.YtkfejgdeknemaaaGreatDoorW.PrintMore Go.Proofs.GRange
attribute [local go_sem] Oper.semAt_some
set_option linter.unusedVariables false
set_option linter.unusedSimpArgs false
theorem C_from {w : World} {g : Nat} {xs : List Int} (h : Kd.C (Kd.int .i64) w (some ⟨g, 0, none⟩) xs.length xs) (k : Nat) (hk : k ≤ xs.length) : Kd.C (Kd.int .i64) w (some ⟨g, k, none⟩) (xs.drop k).length (xs.drop k) := by
  refine ⟨rfl, by have := h.2.1; rw [List.length_drop]; omega, fun hp => ⟨_, rfl, fun j x hx => ?_⟩⟩
  obtain ⟨ad, e, hc⟩ := h.2.2 (by rw [List.length_drop] at hp; omega)
  obtain rfl := Option.some.inj e
  rw [List.getElem?_drop] at hx
  obtain ⟨cs, h1, h2, h3⟩ := hc (k + j) x hx
  refine ⟨cs, h1, h2, fun q u hu => ?_⟩
  have h4 := h3 q u hu
  have h5 : ∀ m, (⟨g, 0, none⟩ : Addr).add m = ⟨g, m, none⟩ := fun m => by simp [Addr.add]; try omega
  have h6 : ∀ m, (⟨g, k, none⟩ : Addr).add m = ⟨g, k + m, none⟩ := fun m => by simp [Addr.add]; try omega
  rw [h5] at h4
  rw [h6]
  rw [← h4]
  congr 2
  show k + (j * 1 + q) = (k + j) * 1 + q
  omega
theorem results_36 (tmps : Array Value) (w : World) (g : Nat) (v : Value)
    (hp : tmps.getD 4 undef = .pointer (some ⟨g, 0, none⟩)) (hg : w.heap[g]? = some (.cells #[v] 29 (0, 0))) : (results Tryz.f36 tmps).run Tryz.prog w = .ok v w := by
  have h1 : tmps[4]?.getD undef = .pointer (some ⟨g, 0, none⟩) := by simpa using hp
  have h3 : w.cell? ⟨g, 0, none⟩ = some v := (blk_cell hg 0).trans rfl
  have h4 : (loadVar 29 ⟨g, 0, none⟩).run Tryz.prog w = .ok v w := by simp [loadVar, go_sem, h3]
  simp [results, h1, h4, asAddr]
theorem LFin.put {w W : World} {bR : Nat} {res : Option (List Int)} (h : LFin w bR res W) (hR : w.heap.size ≤ bR) : LFin w bR res (W.setCell ⟨bR, 0, none⟩ (.slice none 0 0)) :=
  ⟨h.1, blk_put h.2.1 0 _ rfl, below_set h.2.2 hR⟩
theorem seq_holdIn {F : Fence} {m : Nat} {P : Program} {x y : Code} {Q : Exit → Act → World → Prop} {a : Act} {w : World} (h : ∀ K : Act → World → Prop, Aside0 (∀ a w, y.wpIn F m P Q a w → K a w) → x.wpIn F m P (Exit.then K Q) a w) : (Code.seq x y).wpIn F m P Q a w :=
  wpIn_seq_k fun K hK => h K ⟨hK⟩
theorem turnS_ne {x : List Int} (h : x ≠ []) : turnS x ≠ [] := by
  intro e
  have h1 : (turnS x).length = x.length := by
    unfold turnS
    rw [List.length_append, List.length_drop, List.length_take]
    omega
  rw [e] at h1
  exact h (List.length_eq_zero_iff.1 h1.symm)
def LoopR (w : World) (res : Option (List Int)) (v : Value) (w' : World) : Prop :=
  (res = none ∧ v = .slice none 0 0) ∨ ∃ out, res = some out ∧ Kd.R (Kd.int .i64) 3 w' w.heap.size (fun _ => True) v out ∧ v ≠ .slice none 0 0
set_option maxHeartbeats 1000000 in
set_option maxRecDepth 100000 in
theorem loop_calls (A0 : Option Addr) (c0 : Nat) (l : List S41) (b1 b2 : Nat) (G : Int → Int → Option Int) (C : Int → Option Int) (n : Int) (w : World) (hr0 : Kd.C k41 w A0 l.length l) (hl : l.length ≤ 1000)
    (h1 : SetM w b1 1000 G) (h2 : ConM w b2 1000 C) (hn : In64 n) (hG : ∀ x k i, G x k = some i → 0 ≤ i ∧ i < l.length) (hC : ∀ x, In64 ((C x).getD 0)) (hT : ∀ s ∈ l, In64 s.f2) (hinj : ∀ x y i, cnt G C x = some i → cnt G C y = some i → x = y) :
    Calls Tryz.prog 36 #[.agg #[.slice A0 l.length c0, .map (some b1), .map (some b2)], .int .i64 n] w fun e w' => ∃ v, e = .returned v ∧ LoopR w (loopS (cnt G C) l n) v w' ∧ Below w.heap.size w w' := by
  have HR0 := Aside0.mk hr0
  have HS := Aside0.mk h1
  have HC := Aside0.mk h2
  have HN := Aside0.mk hn
  have HGG := Aside0.mk hG
  have HCC := Aside0.mk hC
  have HTT := Aside0.mk hT
  have HIJ := Aside0.mk hinj
  have hb1 : b1 < w.heap.size := by obtain ⟨F, hM, _⟩ := h1; exact hM.lt
  have hb2 : b2 < w.heap.size := by obtain ⟨F, hM, _⟩ := h2; exact hM.lt
  clear hr0 h1 h2 hn hG hC hT hinj
  refine (callsIn_wide (n := 3)).1 ?_
  refine callsIn_of_wp_marks Tryz.func36 rfl trivial ?_ rfl
  simp only [Tryz.ntmps36, List.size_toArray, List.length_cons, List.length_nil, Nat.reduceAdd, Nat.reduceSub, Array.replicate_succ, Array.replicate_zero, List.push_toArray, List.append_toArray, List.nil_append, List.cons_append]
  refine wpIn_wide.2 ?_
  refine seq_hold fun K HK => ?_
  go_wp2
  refine HK.out _ _ ?_
  clear HK
  refine seq_hold fun K HK => ?_
  go_wp2
  refine HK.out _ _ ?_
  clear HK
  refine wp_seq ?_
  refine seq_hold fun K HK => ?_
  go_wp2_with (first | (go_at_call 32; refine (walk_calls A0 l.length c0 b1 b2 n _).mono ?_; rintro e w5 ⟨rfl, rfl⟩))
  refine HK.out _ _ ?_
  clear HK
  obtain ⟨w5, hw5⟩ : ∃ w5, w5 = (((((((w.alloc (.cells #[.slice A0 l.length c0, .map (some b1), .map (some b2)] 73)).alloc (.cells #[.int .i64 n] 3)).alloc (.cells #[.slice none 0 0] 29)).alloc (.cells #[.int .i64 n] 3)).alloc (.cells #[.slice (some ⟨w.heap.size + 1 + 1 + 1, 0, none⟩) 1 1] 29)).alloc (.cells #[.slice A0 l.length c0, .map (some b1), .map (some b2)] 73)).alloc (.cells #[.int .i64 n] 3)) := ⟨_, rfl⟩
  have hsz5 : w5.heap.size = w.heap.size + 1 + 1 + 1 + 1 + 1 + 1 + 1 := by rw [hw5]; simp
  have hBel : Below w.heap.size w w5 := by rw [hw5]; exact below_alloc (below_alloc (below_alloc (below_alloc (below_alloc (below_alloc (below_alloc (Below.refl _ _) _) _) _) _) _) _) _
  have hBM : w5.heap[w.heap.size]? = some (.cells #[.slice A0 l.length c0, .map (some b1), .map (some b2)] 73 (0, 0)) := by
    have h := blk_new w (.cells #[.slice A0 l.length c0, .map (some b1), .map (some b2)] 73)
    rw [hw5]; exact blk_alloc (blk_alloc (blk_alloc (blk_alloc (blk_alloc (blk_alloc (h) _) _) _) _) _) _
  have hBN : w5.heap[w.heap.size + 1]? = some (.cells #[.int .i64 n] 3 (0, 0)) := by
    have h := blk_new (w.alloc (.cells #[.slice A0 l.length c0, .map (some b1), .map (some b2)] 73)) (.cells #[.int .i64 n] 3)
    rw [World.size_alloc] at h
    rw [hw5]; exact blk_alloc (blk_alloc (blk_alloc (blk_alloc (blk_alloc (h) _) _) _) _) _
  have hBR : w5.heap[w.heap.size + 1 + 1]? = some (.cells #[.slice none 0 0] 29 (0, 0)) := by
    have h := blk_new ((w.alloc (.cells #[.slice A0 l.length c0, .map (some b1), .map (some b2)] 73)).alloc (.cells #[.int .i64 n] 3)) (.cells #[.slice none 0 0] 29)
    rw [World.size_alloc, World.size_alloc] at h
    rw [hw5]; exact blk_alloc (blk_alloc (blk_alloc (blk_alloc (h) _) _) _) _
  have hBO : w5.heap[w.heap.size + 1 + 1 + 1 + 1]? = some (.cells #[.slice (some ⟨w.heap.size + 1 + 1 + 1, 0, none⟩) 1 1] 29 (0, 0)) := by
    have h := blk_new ((((w.alloc (.cells #[.slice A0 l.length c0, .map (some b1), .map (some b2)] 73)).alloc (.cells #[.int .i64 n] 3)).alloc (.cells #[.slice none 0 0] 29)).alloc (.cells #[.int .i64 n] 3)) (.cells #[.slice (some ⟨w.heap.size + 1 + 1 + 1, 0, none⟩) 1 1] 29)
    rw [World.size_alloc, World.size_alloc, World.size_alloc, World.size_alloc] at h
    rw [hw5]; exact blk_alloc (blk_alloc (h) _) _
  have hBm : w5.heap[w.heap.size + 1 + 1 + 1 + 1 + 1]? = some (.cells #[.slice A0 l.length c0, .map (some b1), .map (some b2)] 73 (0, 0)) := by
    have h := blk_new (((((w.alloc (.cells #[.slice A0 l.length c0, .map (some b1), .map (some b2)] 73)).alloc (.cells #[.int .i64 n] 3)).alloc (.cells #[.slice none 0 0] 29)).alloc (.cells #[.int .i64 n] 3)).alloc (.cells #[.slice (some ⟨w.heap.size + 1 + 1 + 1, 0, none⟩) 1 1] 29)) (.cells #[.slice A0 l.length c0, .map (some b1), .map (some b2)] 73)
    rw [World.size_alloc, World.size_alloc, World.size_alloc, World.size_alloc, World.size_alloc] at h
    rw [hw5]; exact blk_alloc (h) _
  have hBn : w5.heap[w.heap.size + 1 + 1 + 1 + 1 + 1 + 1]? = some (.cells #[.int .i64 n] 3 (0, 0)) := by
    have h := blk_new ((((((w.alloc (.cells #[.slice A0 l.length c0, .map (some b1), .map (some b2)] 73)).alloc (.cells #[.int .i64 n] 3)).alloc (.cells #[.slice none 0 0] 29)).alloc (.cells #[.int .i64 n] 3)).alloc (.cells #[.slice (some ⟨w.heap.size + 1 + 1 + 1, 0, none⟩) 1 1] 29)).alloc (.cells #[.slice A0 l.length c0, .map (some b1), .map (some b2)] 73)) (.cells #[.int .i64 n] 3)
    rw [World.size_alloc, World.size_alloc, World.size_alloc, World.size_alloc, World.size_alloc, World.size_alloc] at h
    rw [hw5]; exact h
  have hP : Kd.R (Kd.int .i64) 3 w5 w.heap.size (fun k => k ≠ w.heap.size + 1 + 1 + 1 + 1 + 1 + 1 ∧ k ≠ w.heap.size + 1 ∧ k ≠ b1 ∧ k ≠ b2) (.slice (some ⟨w.heap.size + 1 + 1 + 1, 0, none⟩) 1 1) [n] := by
    rw [hw5]
    refine Kd.R_alloc (Kd.R_alloc (Kd.R_alloc ?_ _) _) _
    have h := own_lit_of (enc := Value.int .i64) (((w.alloc (.cells #[.slice A0 l.length c0, .map (some b1), .map (some b2)] 73)).alloc (.cells #[.int .i64 n] 3)).alloc (.cells #[.slice none 0 0] 29)) w.heap.size 3 [n] (by simp; omega) (by simp)
    rw [World.size_alloc, World.size_alloc, World.size_alloc] at h
    exact Kd.R_of_own h (fun k hk => by
      have : w.heap.size + 1 + 1 + 1 = k := by simpa [Value.ownBlock] using hk
      subst this
      exact ⟨by omega, by omega, by omega, by omega⟩)
  have HCal := Aside0.mk (show LcE w A0 c0 l b1 b2 w.heap.size (w.heap.size + 1) (w.heap.size + 1 + 1) (w.heap.size + 1 + 1 + 1 + 1) (w.heap.size + 1 + 1 + 1 + 1 + 1 + 1) n [n] w5 from ⟨_, hBM, hBN, hBR, hBO, hP, hBel⟩)
  have HBase := Aside0.mk (show Base w A0 c0 l b1 b2 1000 1000 (w.heap.size + 1 + 1 + 1 + 1 + 1) (w.heap.size + 1 + 1 + 1 + 1 + 1 + 1) G C n w5 from ⟨hBm, hBn, HS.out.below hBel, HC.out.below hBel, hBel⟩)
  rw [← hw5]
  clear hw5 hBel hBM hBN hBR hBO hBm hBn hP HS HC
  refine wp_block ?_
  refine (wpIn_wide (n := 3)).1 ?_
  obtain ⟨res, hres⟩ : ∃ res, loopS (cnt G C) l n = res := ⟨_, rfl⟩
  have HR := Aside0.mk hres
  rw [hres]
  clear hres
  have hne3 : w.heap.size ≠ w.heap.size + 1 + 1 + 1 + 1 + 1 + 1 ∧ w.heap.size + 1 ≠ w.heap.size + 1 + 1 + 1 + 1 + 1 + 1 ∧ w.heap.size + 1 + 1 ≠ w.heap.size + 1 + 1 + 1 + 1 + 1 + 1 ∧ w.heap.size + 1 + 1 + 1 + 1 ≠ w.heap.size + 1 + 1 + 1 + 1 + 1 + 1 := ⟨by omega, by omega, by omega, by omega⟩
  have HCG := Aside0.mk (fun x i (h : cnt G C x = some i) => cnt_lt HGG.out h)
  refine wpIn_range rfl (by omega) (gf := 49) (lb := #[.pointer (some ⟨w.heap.size + 1 + 1 + 1 + 1 + 1, 0, none⟩), .pointer (some ⟨w.heap.size + 1 + 1 + 1 + 1 + 1 + 1, 0, none⟩)]) rfl trivial (enters_of Tryz.func49 (by kernel_rfl) rfl) (fun _ => rfl)
    (walk_iter (w0 := w) (c0 := c0) (b1 := b1) (b2 := b2) (bm := w.heap.size + 1 + 1 + 1 + 1 + 1) (bn := w.heap.size + 1 + 1 + 1 + 1 + 1 + 1) (n1 := 1000) (n2 := 1000) (G := G) (C := C) 2 HR0.out hl (by omega) (by omega) (by omega) (by omega) HGG.out HCC.out HTT.out n HN.out l.length
      (LIn w A0 c0 l b1 b2 w.heap.size (w.heap.size + 1) (w.heap.size + 1 + 1) (w.heap.size + 1 + 1 + 1 + 1) (w.heap.size + 1 + 1 + 1 + 1 + 1 + 1) n (cnt G C) res) (LGo' w A0 c0 l b1 b2 w.heap.size (w.heap.size + 1) (w.heap.size + 1 + 1) (w.heap.size + 1 + 1 + 1 + 1) (w.heap.size + 1 + 1 + 1 + 1 + 1 + 1) n (cnt G C) res) (LcE w A0 c0 l b1 b2 w.heap.size (w.heap.size + 1) (w.heap.size + 1 + 1) (w.heap.size + 1 + 1 + 1 + 1) (w.heap.size + 1 + 1 + 1 + 1 + 1 + 1) n [n]) (LFin w (w.heap.size + 1 + 1) res) ?hstart ?hnext ?hbound)
    (LIx w (w.heap.size + 1 + 1) res) ?r1 ?r2 ?r3 ?r4 (fun s => { tmps := #[.agg #[.slice A0 l.length c0, .map (some b1), .map (some b2)], .int .i64 n, .pointer (some ⟨w.heap.size, 0, none⟩), .pointer (some ⟨w.heap.size + 1, 0, none⟩), .pointer (some ⟨w.heap.size + 1 + 1, 0, none⟩), .pointer (some ⟨w.heap.size + 1 + 1 + 1 + 1, 0, none⟩), .int .i64 s.2.2, undef, undef, .int .i64 n, .slice (some ⟨w.heap.size + 1 + 1 + 1, 0, none⟩) 1 1, .agg #[.slice A0 l.length c0, .map (some b1), .map (some b2)], .int .i64 n, .func (.func 49) #[] #[.pointer (some ⟨w.heap.size + 1 + 1 + 1 + 1 + 1, 0, none⟩), .pointer (some ⟨w.heap.size + 1 + 1 + 1 + 1 + 1 + 1, 0, none⟩)], .int .i64 s.2.2, undef, undef, undef, undef, undef, undef, undef, undef, undef, undef, undef, undef, undef, undef, undef, undef, undef, undef, undef, undef, undef, undef, undef, undef, undef, undef, undef, undef], defers := [] }) ?h0 ?assign ?body ?done ?stop
  case hstart =>
    intro W W' h hg
    exact LGo.next (k := 0) (i := 0) ⟨[n], rfl, rfl, by simp, fun y hy hne => by simp at hy; exact absurd hy hne, HR.out, Nat.zero_le _, h⟩ hg (by omega) hne3
  case hnext =>
    intro k x i W W' h hg
    exact LGo.next (k := k + 1) h hg (by omega) hne3
  case hbound =>
    rintro k x i W ⟨_, _, _, _, _, _, _, h, _⟩
    exact h
  case r1 => exact fun s => Rec_and (base_rec (by omega) (by omega) (by omega) (by omega) (by omega)) (Rec_and (fun W l r r' _ h _ => h) <| LGo.rec (by omega) (by omega) (by omega) (by omega) (by omega))
  case r2 => exact fun s => Rec_and (base_rec (by omega) (by omega) (by omega) (by omega) (by omega)) (LGo.rec (by omega) (by omega) (by omega) (by omega) (by omega))
  case r3 => exact fun c => LIx.rec (by omega) (by omega) c
  case r4 => exact LFin.rec (by omega) (by omega)
  case h0 =>
    intro W1 hb
    obtain ⟨vp, h⟩ := HCal.out
    exact ⟨HBase.out.below hb, vp, h.below hb⟩
  case assign =>
    intro l s W K hK
    dsimp only
    gi_wp2
    exact hK
  case body =>
    rintro lo ⟨k, x, i⟩ W ⟨hB, hcn, out, g1, g2, g3, g4, g5, g6, vp, hL⟩ hlt
    dsimp only at g1 g2 g3 g4 g5 g6 hcn
    obtain ⟨hi0, hi1⟩ := HCG.out _ _ hcn
    obtain ⟨gp, cp, rfl, hcp⟩ := own_form hL.p (by omega)
    obtain ⟨ad, hA, e0, e1, e2, e3, e4⟩ := at_T41 HR0.out i hi0 hi1
    subst hA
    replace e2 := pw_cell_below hL.bel e2
    clear e0 e1 e3 e4
    obtain ⟨tn, hto⟩ : ∃ tn, toOf l i = tn := ⟨_, rfl⟩
    rw [show (rd_T41 l i).f2 = toOf l i from rfl, hto] at e2
    have HBS := Aside0.mk hB
    have HLC := Aside0.mk hL
    have HRP := Aside0.mk (Kd.R_reads' hL.p).2.2
    have kM : W.cell? ⟨w.heap.size, 0, none⟩ = some (.slice (some ad) l.length c0) := (blk_cell hL.m 0).trans rfl
    have kN : W.cell? ⟨w.heap.size + 1, 0, none⟩ = some (.int .i64 n) := (blk_cell hL.nb 0).trans rfl
    have kO : W.cell? ⟨w.heap.size + 1 + 1 + 1 + 1, 0, none⟩ = some (.slice (some ⟨gp, 0, none⟩) out.length cp) := (blk_cell hL.o 0).trans rfl
    obtain ⟨f, hf⟩ : ∃ f, l.length + 1 - k = f + 1 := ⟨l.length - k, by omega⟩
    rw [hf] at g5
    simp only [loopGo, hcn, hto] at g5
    have HG1 := Aside0.mk g1
    have HG2 := Aside0.mk g2
    have HG3 := Aside0.mk g3
    have HG4 := Aside0.mk g4
    have HCN := Aside0.mk hcn
    have HTO := Aside0.mk hto
    have HFF := Aside0.mk hf
    have hne : out ≠ [] := by intro e; rw [e] at g1; simp at g1
    obtain ⟨lj, hlj, hlj2⟩ := least_at hne
    have hol : out.length ≤ 1001 := by omega
    clear hB hL hcn hto hf g1 g2 g3 g4 HCal HBase HR
    by_cases htn : tn = n
    · rw [if_pos htn] at g5
      have HRS := Aside0.mk g5
      have hb : (tn == n) = true := by simpa using htn
      clear g5 htn
      have HMIN := Aside0.mk (fun W' (h : Kd.C (Kd.int .i64) W' (some ⟨gp, 0, none⟩) out.length out) => Tryz.slices_Min_int gp 0 out.length cp out W' (by omega) (Nat.le_refl _) (by omega) (cells_int h))
      have HIDX := Aside0.mk (fun W' (h : Kd.C (Kd.int .i64) W' (some ⟨gp, 0, none⟩) out.length out) => Tryz.slices_Index_int gp 0 out.length cp out (Lib.minOf out) W' (Nat.le_refl _) (by omega) (cells_int h))
      rw [List.take_length] at HMIN HIDX
      rw [hlj] at HIDX
      gi_wp2
      refine region_round_tail 3 (by kernel_rfl) (fun ⟨_, _, h⟩ => h) (by kernel_rfl) (by kernel_rfl) ?_
      simp only [List.take_succ_cons, List.take_zero, List.drop_succ_cons, List.drop_zero]
      repeat still_step
      have hrd := Kd.C_below HRP.out (below_drew1 (Below.refl W.heap.size W))
      still_call (HMIN.out _ hrd)
      refine wpStill_nil ?_
      change wpList _ _ _ _ _ W.drew
      clear hrd
      generalize hWd : W.drew = Wd
      have HB1 := Aside0.mk (show Below W.heap.size W Wd by rw [← hWd]; exact below_drew1 (Below.refl _ _))
      clear hWd
      replace kM := pw_cell_below HB1.out kM
      replace kN := pw_cell_below HB1.out kN
      replace kO := pw_cell_below HB1.out kO
      have HRD := Aside0.mk (Kd.C_below HRP.out HB1.out)
      go_wp2_with (first | (go_at_call 51; refine (HIDX.out _ HRD.out).mono ?_; rintro e w2 ⟨rfl, h2⟩; obtain rfl := h2.symm))
      gi_wp2
      refine region_round_tail 6 (by kernel_rfl) (fun ⟨_, _, h⟩ => h) (by kernel_rfl) (by kernel_rfl) ?_
      simp only [List.take_succ_cons, List.take_zero, List.drop_succ_cons, List.drop_zero]
      have hc1 : lj ≤ out.length := by omega
      have hc2 : out.length ≤ cp := hcp
      have hc3 : ¬ cp = lj := by omega
      have hc4 : lj ≤ cp := by omega
      repeat still_step
      refine wpStill_nil ?_
      change wpList _ _ _ _ _ Wd.drew
      obtain ⟨wb, hwb⟩ : ∃ wb, wb = (Wd.alloc (.cells #[.slice (some ⟨gp, lj, none⟩) (out.length - lj) (cp - lj), .slice (some ⟨gp, 0, none⟩) lj cp] 29)).drew := ⟨_, rfl⟩
      have HWB := Aside0.mk hwb
      have HB2 := Aside0.mk (show Below W.heap.size W wb by rw [hwb]; exact below_drew1 (below_alloc HB1.out _))
      have HRW := Aside0.mk (Kd.C_below HRP.out HB2.out)
      have HCON := Aside0.mk (concat_calls Wd.heap.size (some ⟨gp, lj, none⟩) (out.length - lj) (cp - lj) (out.drop lj) (some ⟨gp, 0, none⟩) lj cp (out.take lj) wb (List.length_drop ..) (by rw [List.length_take]; omega) (by rw [hwb]; exact blk_new Wd _)
        (C_from HRW.out lj hc1) (Kd.C_take HRW.out hc1) (by rw [List.length_drop, List.length_take]; omega) (by rw [List.length_drop, List.length_take]; omega))
      have hturn : out.drop lj ++ out.take lj = turnS out := by unfold turnS; rw [hlj]; try rfl
      rw [hturn] at HCON
      have HLB := Aside0.mk (HLC.out.below HB2.out)
      clear hwb hturn
      go_wp2_with (first | (go_at_call 55; rw [← HWB.out]; refine HCON.out.mono ?_; rintro e w2 ⟨v, rfl, hR, hb⟩; obtain ⟨Av, cv, rfl⟩ := Kd.R_slice hR; have HRR := Aside0.mk hR; have HBB := Aside0.mk hb; have HL2 := Aside0.mk (HLB.out.below hb); have fR := blk_frozen HL2.out.r 0; have kR : w2.cell? ⟨w.heap.size + 1 + 1, 0, none⟩ = some (.slice none 0 0) := (blk_cell HL2.out.r 0).trans rfl; clear hR hb))
      gi_wp2
      refine ⟨((Sees.below HB2.out).trans (Sees.below HBB.out)).trans (Sees.setCell _ _ _), ?_⟩
      exact ⟨turnS out, _, ⟨HRS.out.symm, turnS_ne hne⟩, blk_put HL2.out.r 0 _ rfl, Kd.R_mono (Kd.R_far (p := ⟨w.heap.size + 1 + 1, 0, none⟩) (Kd.R_types (Kd.R_lower HRR.out (below_size HLB.out.bel)) HL2.out.r (by decide)) (fun _ hk => hk.2) _) (fun _ hk => hk.1), below_set HL2.out.bel (by omega)⟩
    · rw [if_neg htn] at g5
      have hb : (tn == n) = false := by simpa using htn
      have hol2 : out.length ≤ l.length := room HCG.out HIJ.out HG3.out (fun y hy => by
        by_cases e : y = x
        · rw [e, HCN.out]; rfl
        · exact HG4.out y hy e)
      obtain ⟨b, hbb⟩ : ∃ b, out.contains tn = b := ⟨_, rfl⟩
      have HCT := Aside0.mk (containsI_calls tn (some ⟨gp, 0, none⟩) cp out W HRP.out (by omega))
      rw [hbb] at HCT g5
      have HG5 := Aside0.mk g5
      have HBB := Aside0.mk hbb
      clear g5 htn hbb hlj
      cases b with
      | true =>
        gi_wp2_with (first | (refine ⟨trivial, ?_⟩; refine ((callsIn_wide.2 (HCT.out)).inRound lo).mono ?_; rintro e W2 ⟨rfl, h2⟩; obtain rfl := h2.symm))
        exact ⟨Sees.refl _, by have h := HG5.out; simpa using h.symm, HLC.out.r, HLC.out.bel⟩
      | false =>
        refine wpIn_block ?_
        refine seq_holdIn fun K HK => ?_
        gi_wp2
        refine HK.out _ _ ?_
        clear HK
        refine seq_holdIn fun K HK => ?_
        gi_wp2
        refine HK.out _ _ ?_
        clear HK
        refine seq_holdIn fun K HK => ?_
        gi_wp2_with (first | (refine ⟨trivial, ?_⟩; refine ((callsIn_wide.2 (HCT.out)).inRound lo).mono ?_; rintro e W2 ⟨rfl, h2⟩; obtain rfl := h2.symm))
        refine HK.out _ _ ?_
        clear HK
        refine region_round_list (fun ⟨_, _, h⟩ => h) (by kernel_rfl) ?_
        obtain ⟨wb, hwb⟩ : ∃ wb, wb = W.alloc (.cells #[.int .i64 tn] 3) := ⟨_, rfl⟩
        have hBW : Below W.heap.size W wb := by rw [hwb]; exact below_alloc (Below.refl _ _) _
        have HO := Aside0.mk (show Kd.R (Kd.int .i64) 3 wb w.heap.size (fun _ => True) (.slice (some ⟨W.heap.size, 0, none⟩) 1 1) [tn] by
          rw [hwb]
          exact Kd.R_of_own (own_lit_of (enc := Value.int .i64) W w.heap.size 3 [tn] (below_size HLC.out.bel) (by simp)) (fun _ _ => trivial))
        have HWB := Aside0.mk hwb
        have HLB := Aside0.mk (HLC.out.below hBW)
        have HBB2 := Aside0.mk (HBS.out.below hBW)
        have HS1 := Aside0.mk (Sees.below hBW)
        have hfr : ∀ k, wb.heap.size ≤ k → k ≠ w.heap.size + 1 + 1 + 1 + 1 + 1 + 1 ∧ k ≠ w.heap.size + 1 ∧ k ≠ b1 ∧ k ≠ b2 := fun k hk => by
          have := hBW.size
          exact ⟨by omega, by omega, by omega, by omega⟩
        have HFR := Aside0.mk hfr
        have hneO : w.heap.size ≠ w.heap.size + 1 + 1 + 1 + 1 ∧ w.heap.size + 1 ≠ w.heap.size + 1 + 1 + 1 + 1 ∧ w.heap.size + 1 + 1 ≠ w.heap.size + 1 + 1 + 1 + 1 ∧ b1 ≠ w.heap.size + 1 + 1 + 1 + 1 ∧ b2 ≠ w.heap.size + 1 + 1 + 1 + 1 ∧ w.heap.size + 1 + 1 + 1 + 1 + 1 ≠ w.heap.size + 1 + 1 + 1 + 1 ∧ w.heap.size + 1 + 1 + 1 + 1 + 1 + 1 ≠ w.heap.size + 1 + 1 + 1 + 1 := ⟨by omega, by omega, by omega, by omega, by omega, by omega, by omega⟩
        clear hwb hBW hfr
        go_wp2_with (first | ((with_reducible refine gate_builtin (b := .append) (xs := #[.tmp 39, .tmp 41]) rfl ?_); at_builtin; rw [← HWB.out]; refine Kd.R_append_rows (Kd.int .i64) (w0 := w) w.heap.size rfl (.tmp 39) (.tmp 41) 29 3 (.int .i64 0) 8 rfl Tryz.underlying29 info3 rfl (by decide) (by omega) (.slice (some ⟨gp, 0, none⟩) out.length cp) out [tn] _ _ _ (fun k => k ≠ w.heap.size + 1 + 1 + 1 + 1 + 1 + 1 ∧ k ≠ w.heap.size + 1 ∧ k ≠ b1 ∧ k ≠ b2) (fun _ => False) rfl rfl HLB.out.p (Kd.R_reads' HO.out).2.2 (fun _ _ h => h) (fun _ h => h.elim) HFR.out HLB.out.bel (below_size HLB.out.bel) (by omega) ?_; intro v1 w1 ho hb hg hat; obtain ⟨Av, cv, rfl⟩ := Kd.R_slice ho; have HA := Aside0.mk (HLB.out.app HBB2.out ho hb hg); have fO := blk_frozen HA.out.1.o 0; have kO1 : w1.cell? ⟨w.heap.size + 1 + 1 + 1 + 1, 0, none⟩ = some (.slice (some ⟨gp, 0, none⟩) out.length cp) := (blk_cell HA.out.1.o 0).trans rfl; clear ho hb hg hat))
        have HP := Aside0.mk (HA.out.1.put HA.out.2.1 hneO (by omega) (.slice Av (out ++ [tn]).length cv))
        rw [show (out ++ [tn]).length = out.length + 1 from by simp] at HP
        refine ⟨(HS1.out.trans HA.out.2.2).trans HP.out.2.2, HP.out.2.1, out ++ [tn], ?_, ?_, ?_, ?_, ?_, ?_, _, HP.out.1⟩
        · have := HG1.out; simp; omega
        · show _ = some (toOf l i)
          rw [HTO.out]; simp
        · have h : tn ∉ out := by have := HBB.out; simpa using this
          exact List.nodup_append.2 ⟨HG3.out, by simp, fun a ha b hb' => by
            have hb2 : b = tn := by simpa using hb'
            intro e
            exact h (hb2 ▸ e ▸ ha)⟩
        · intro y hy hne'
          have hne2 : y ≠ tn := by rw [← HTO.out]; exact hne'
          rcases List.mem_append.1 hy with h | h
          · by_cases e : y = x
            · rw [e, HCN.out]; rfl
            · exact HG4.out y h e
          · exact absurd (by simpa using h) hne2
        · show loopGo _ _ _ (l.length + 1 - (k + 1)) _ (toOf l i) = res
          rw [HTO.out, show l.length + 1 - (k + 1) = f by have := HFF.out; omega]
          have h := HG5.out
          simpa using h
        · have := HG1.out
          show k + 1 ≤ l.length
          omega
  case done =>
    rintro D W hD hF hk
    have HF := Aside0.mk hF
    have HKD := Aside0.mk hk
    have f0 : W.frozen? ⟨w.heap.size + 1 + 1, 0, none⟩ = false := blk_frozen hF.2.1 0
    have k0 : W.cell? ⟨w.heap.size + 1 + 1, 0, none⟩ = some (.slice none 0 0) := (blk_cell hF.2.1 0).trans rfl
    clear hF hk
    go_wp2
    have HF2 := Aside0.mk (HF.out.put (by omega))
    have HKD2 := Aside0.mk ((Below.heap_setCell W ⟨w.heap.size + 1 + 1, 0, none⟩ (.slice none 0 0) D (by simp only; omega)).trans HKD.out)
    have HF3 := Aside0.mk (HF2.out.shut HKD2.out (by omega))
    refine ⟨by simp, .inl ⟨_, _, rfl, run_takeDeferred HKD2.out, ?_⟩⟩
    exact ⟨_, results_36 _ _ _ _ rfl HF3.out.2.1, _, rfl, .inl ⟨HF3.out.1, rfl⟩, HF3.out.2.2⟩
  case stop =>
    intro D c W hD hIx hk
    cases c with
    | ret =>
      have HD := Aside0.mk (LDone.shut hIx hk (by omega))
      have HKD := Aside0.mk hk
      clear hIx hk
      gi_wp2
      refine ⟨by simp, .inl ⟨_, _, rfl, run_takeDeferred HKD.out, ?_⟩⟩
      obtain ⟨o, v, ⟨he, hne⟩, hr, hR, hb⟩ := HD.out
      exact ⟨_, results_36 _ _ _ _ rfl hr, _, rfl, .inr ⟨o, he, hR, fun e => by
        obtain ⟨A, c, h3⟩ := Kd.R_slice hR
        rw [h3] at e
        injection e with _ h4
        exact hne (List.length_eq_zero_iff.1 h4)⟩, hb⟩
    | exit id =>
      cases id with
      | succ m => exact hIx.elim
      | zero =>
        have HF := Aside0.mk (show LFin w (w.heap.size + 1 + 1) res W from hIx)
        have HKD := Aside0.mk hk
        have f0 : W.frozen? ⟨w.heap.size + 1 + 1, 0, none⟩ = false := blk_frozen HF.out.2.1 0
        have k0 : W.cell? ⟨w.heap.size + 1 + 1, 0, none⟩ = some (.slice none 0 0) := (blk_cell HF.out.2.1 0).trans rfl
        clear hIx hk
        gi_wp2
        go_wp2
        have HF2 := Aside0.mk (HF.out.put (by omega))
        have HKD2 := Aside0.mk ((Below.heap_setCell W ⟨w.heap.size + 1 + 1, 0, none⟩ (.slice none 0 0) D (by simp only; omega)).trans HKD.out)
        have HF3 := Aside0.mk (HF2.out.shut HKD2.out (by omega))
        refine ⟨by simp, .inl ⟨_, _, rfl, run_takeDeferred HKD2.out, ?_⟩⟩
        exact ⟨_, results_36 _ _ _ _ rfl HF3.out.2.1, _, rfl, .inl ⟨HF3.out.1, rfl⟩, HF3.out.2.2⟩
    | _ => exact hIx.elim
end Go.Proofs.YtkfejgdeknemaaaGreatDoor.Fw
end
