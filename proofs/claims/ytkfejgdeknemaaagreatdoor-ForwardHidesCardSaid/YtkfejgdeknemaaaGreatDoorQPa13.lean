/- Pa: part 14 of the proof that the law's row holds: the printed walk of the program's functions, the plain law, the row. -/
import Derived.OwnWalkIn
import Derived.TacticsInMore
import Derived.LoopNIn
import Derived.LoopIn
import Derived.Test.YtkfejgdeknemaaaGreatDoorQPa5
import Derived.Test.YtkfejgdeknemaaaGreatDoorQPa12
section
namespace Go.Proofs.YtkfejgdeknemaaaGreatDoor.Fw
open Go.RowKit Go.Shelf Go.Proofs.YtkfejgdeknemaaaGreatDoorW.PrintWords Go.Proofs.YtkfejgdeknemaaaGreatDoorW.PrintLast Go.Proofs.YtkfejgdeknemaaaGreatDoorW.PrintMore Go.Proofs.GRange
set_option linter.unusedVariables false
set_option maxRecDepth 100000 in
theorem walk_calls (A0 : Option Addr) (m c0 b1 b2 : Nat) (n : Int) (w : World) :
    Calls Tryz.prog 32 #[.agg #[.slice A0 m c0, .map (some b1), .map (some b2)], .int .i64 n] w fun e w' => e = .returned (.func (.func 49) #[] #[.pointer (some ⟨w.heap.size, 0, none⟩), .pointer (some ⟨w.heap.size + 1, 0, none⟩)]) ∧
      w' = (w.alloc (.cells #[.slice A0 m c0, .map (some b1), .map (some b2)] 73)).alloc (.cells #[.int .i64 n] 3) := by
  go_enter Tryz.func32, Tryz.ntmps32
  go_wp2
  go_ret
  exact ⟨rfl, rfl⟩
section
variable (w0 : World) (A0 : Option Addr) (c0 : Nat) (l : List S41) (b1 b2 n1 n2 bm bn : Nat) (G : Int → Int → Option Int) (C : Int → Option Int)
structure Base (x : Int) (W : World) : Prop where
  bm : W.heap[bm]? = some (.cells #[.slice A0 l.length c0, .map (some b1), .map (some b2)] 73 (0, 0))
  bn : W.heap[bn]? = some (.cells #[.int .i64 x] 3 (0, 0))
  set : SetM W b1 n1 G
  con : ConM W b2 n2 C
  bel : Below w0.heap.size w0 W
end
section
variable {w0 : World} {A0 : Option Addr} {c0 : Nat} {l : List S41} {b1 b2 n1 n2 bm bn : Nat} {G : Int → Int → Option Int} {C : Int → Option Int}
theorem Base.below {x : Int} {W W' : World} (h : Base w0 A0 c0 l b1 b2 n1 n2 bm bn G C x W) (hb : Below W.heap.size W W') : Base w0 A0 c0 l b1 b2 n1 n2 bm bn G C x W' :=
  ⟨blk_below h.bm hb, blk_below h.bn hb, h.set.below hb, h.con.below hb, below_step h.bel hb⟩
theorem Base.put {x y : Int} {W : World} (h : Base w0 A0 c0 l b1 b2 n1 n2 bm bn G C x W) (h0 : bm ≠ bn) (h1 : b1 ≠ bn) (h2 : b2 ≠ bn) (h3 : w0.heap.size ≤ bn) : Base w0 A0 c0 l b1 b2 n1 n2 bm bn G C y (W.setCell ⟨bn, 0, none⟩ (.int .i64 y)) :=
  ⟨(Below.heap_setCell _ _ _ _ h0).trans h.bm, blk_put h.bn 0 _ rfl, h.set.setCell h1 _, h.con.setCell h2 _, h.bel.setCell (p := ⟨bn, 0, none⟩) h3 _⟩
theorem grown_below {W W' : World} (hb : Below W.heap.size W W') (row : Option Nat) : W.grownBy W' row := ⟨hb.os, hb.tape, hb.output, hb.size, fun k hk _ => hb.block k hk⟩
theorem grown_put (W : World) (b : Nat) (v : Value) : W.grownBy (W.setCell ⟨b, 0, none⟩ v) (some b) := ⟨rfl, rfl, rfl, by simp, fun k _ hne => Below.heap_setCell _ _ _ k (fun e => hne (by rw [e]))⟩
abbrev St := Nat × Int × Int
def toOf (l : List S41) (i : Int) : Int := (rd_T41 l i).f2
def WRel (R : St → World → Prop) (RF E : World → Prop) (N : Nat) (B : Int → World → Prop) (cn : Int → Option Int) (m : Nat) (v4 v5 : Value) (W : World) : Prop :=
  E W ∧ ((∃ k x i, v4 = .int .i64 i ∧ v5 = .bool true ∧ B x W ∧ cn x = some i ∧ In64 x ∧ R (k, x, i) W ∧ m = N + 1 - k) ∨ (∃ i, v4 = .int .i64 i ∧ v5 = .bool false ∧ RF W ∧ m = 0))
end
section
variable {w0 : World} {A0 : Option Addr} {c0 : Nat} {l : List S41} {b1 b2 n1 n2 bm bn : Nat} {G : Int → Int → Option Int} {C : Int → Option Int}
theorem cnt_lt (hG : ∀ x k i, G x k = some i → 0 ≤ i ∧ i < l.length) {x i : Int} (h : cnt G C x = some i) : 0 ≤ i ∧ i < l.length := by
  unfold cnt at h
  split at h
  · rename_i j hj
    obtain rfl := Option.some.inj h
    exact hG _ _ _ hj
  · exact hG _ _ _ h
set_option maxHeartbeats 1000000 in
set_option maxRecDepth 100000 in
theorem walk_iter (n : Nat) (hr0 : Kd.C k41 w0 A0 l.length l) (hl : l.length ≤ 1000) (h0 : bm ≠ bn) (h1 : b1 ≠ bn) (h2 : b2 ≠ bn) (h3 : w0.heap.size ≤ bn)
    (hG : ∀ x k i, G x k = some i → 0 ≤ i ∧ i < l.length) (hC : ∀ x, In64 ((C x).getD 0)) (hT : ∀ s ∈ l, In64 s.f2) (x0 : Int) (hx0 : In64 x0)
    (N : Nat) (R R' : St → World → Prop) (R0 RF : World → Prop)
    (hstart : ∀ W W', R0 W → W.grownBy W' (some bn) → match cnt G C x0 with | some i => R (0, x0, i) W' | none => RF W')
    (hnext : ∀ k x i W W', R' (k, x, i) W → W.grownBy W' (some bn) → match cnt G C (toOf l i) with | some j => R (k + 1, toOf l i, j) W' | none => RF W')
    (hbound : ∀ k x i W, R (k, x, i) W → k ≤ N) :
    Iter Fence.wide n Tryz.prog 49 #[.pointer (some ⟨bm, 0, none⟩), .pointer (some ⟨bn, 0, none⟩)] (fun s : St => #[.int .i64 s.2.2])
      (fun s W => Base w0 A0 c0 l b1 b2 n1 n2 bm bn G C s.2.1 W ∧ R s W) (fun s W => Base w0 A0 c0 l b1 b2 n1 n2 bm bn G C s.2.1 W ∧ R' s W)
      (fun W => Base w0 A0 c0 l b1 b2 n1 n2 bm bn G C x0 W ∧ R0 W) RF := by
  intro lo E Jx W1 hE hY hS hE1
  have HR0 := Aside0.mk hr0
  have HY := Aside0.mk hY
  have HS := Aside0.mk hS
  have HE := Aside0.mk hE
  have HE1 := Aside0.mk hE1
  have HST := Aside0.mk hstart
  have HNX := Aside0.mk hnext
  have HBD := Aside0.mk hbound
  have HG := Aside0.mk hG
  have HC := Aside0.mk hC
  have HT := Aside0.mk hT
  have HX := Aside0.mk hx0
  clear hr0 hY hS hE hE1 hstart hnext hbound hG hC hT hx0
  have cm0 : W1.cell? ⟨bm, 0, none⟩ = some (.slice A0 l.length c0) := (blk_cell HS.out.1.bm 0).trans rfl
  have cm1 : W1.cell? ⟨bm, 1, none⟩ = some (.map (some b1)) := (blk_cell HS.out.1.bm 1).trans rfl
  have cm2 : W1.cell? ⟨bm, 2, none⟩ = some (.map (some b2)) := (blk_cell HS.out.1.bm 2).trans rfl
  have cn0 : W1.cell? ⟨bn, 0, none⟩ = some (.int .i64 x0) := (blk_cell HS.out.1.bn 0).trans rfl
  refine callsIn_of_wp Tryz.func49 rfl trivial ?_ rfl
  simp only [Tryz.ntmps49, List.size_toArray, List.length_cons, List.length_nil, Nat.reduceAdd, Nat.reduceSub, Array.replicate_succ, Array.replicate_zero, List.push_toArray, List.append_toArray, List.nil_append, List.cons_append]
  gi_wp2_with (first | (refine ⟨trivial, (fun h => by cases h), ?_⟩; refine (callsIn_wide.2 (counts_calls A0 l.length c0 b1 b2 n1 n2 G C x0 _ HS.out.1.set HS.out.1.con HX.out (HC.out _))).mono ?_; rintro e W2 ⟨rfl, hb2⟩; have HB2 := Aside0.mk hb2; clear hb2))
  have HB1 := Aside0.mk (HS.out.1.below HB2.out)
  have HE2 := Aside0.mk (HE.out _ _ HE1.out (Sees.below HB2.out))
  have HR1 := Aside0.mk (HST.out _ W2 HS.out.2 (grown_below HB2.out _))
  clear HB2 HE1 HST HS cm0 cm1 cm2 cn0
  gi_loopw [4, 5] (fun v4 v5 wr => ∃ m, WRel R RF E N (fun x W => Base w0 A0 c0 l b1 b2 n1 n2 bm bn G C x W) (cnt G C) m v4 v5 wr) (fun v4 v5 wr => leastOf (fun m => WRel R RF E N (fun x W => Base w0 A0 c0 l b1 b2 n1 n2 bm bn G C x W) (cnt G C) m v4 v5 wr))
  case atStart =>
    have h := HR1.out
    cases hc : cnt G C x0 with
    | some i =>
      rw [hc] at h
      exact ⟨_, HE2.out, .inl ⟨0, x0, i, rfl, rfl, HB1.out, hc, HX.out, h, rfl⟩⟩
    | none =>
      rw [hc] at h
      exact ⟨_, HE2.out, .inr ⟨0, rfl, rfl, h, rfl⟩⟩
  case round =>
    clear HB1 HE2 HR1
    obtain ⟨m, hm⟩ : ∃ m, m = leastOf (fun m => WRel R RF E N (fun x W => Base w0 A0 c0 l b1 b2 n1 n2 bm bn G C x W) (cnt G C) m u4 u5 wr) := ⟨_, rfl⟩
    have hW := (leastOf_spec hrel).1
    rw [← hm] at hW
    clear hrel
    obtain ⟨hE, (⟨k, x, i, rfl, rfl, hB, hcn, hx, hR, hmk⟩ | ⟨i, rfl, rfl, hF, hmk⟩)⟩ := hW
    · have hN := HBD.out k x i wr hR
      obtain ⟨hi0, hi1⟩ := cnt_lt HG.out hcn
      obtain ⟨fn, tmps, assign, body, hy, hYR⟩ := HY.out (k, x, i) wr ⟨hB, hR⟩ hE
      dsimp only at hy
      have HM := Aside0.mk hm
      have HMK := Aside0.mk hmk
      have HYR := Aside0.mk hYR
      clear hm hmk hYR hE hB hcn hx hR
      gi_wp2
      refine ⟨(fun h => by cases h), ?_⟩
      refine HYR.out.mono ?_
      rintro e W3 (⟨rfl, ⟨hB3, hR3⟩, hE3⟩ | ⟨rfl, hJx⟩)
      · obtain ⟨ad, hA, e0, e1, e2, e3, e4⟩ := at_T41 HR0.out i hi0 hi1
        subst hA
        replace e2 := pw_cell_below hB3.bel e2
        obtain ⟨t', ht'⟩ : ∃ t', toOf l i = t' := ⟨_, rfl⟩
        rw [show (rd_T41 l i).f2 = t' from ht'] at e2
        have HTI := Aside0.mk (show In64 t' by rw [← ht']; exact HT.out _ (by rw [show rd_T41 l i = l[i.toNat]'(by omega) by unfold rd_T41; simp [show i.toNat < l.length by omega]]; exact List.getElem_mem _))
        have HB3 := Aside0.mk hB3
        have HB4 := Aside0.mk (hB3.put (y := t') h0 h1 h2 h3)
        have HE4 := Aside0.mk (HE.out _ _ hE3 (Sees.setCell W3 ⟨bn, 0, none⟩ (.int .i64 t')))
        have HN4 := Aside0.mk (fun W' hg => HNX.out k x i W3 W' hR3 hg)
        rw [ht'] at HN4
        have cm0 : W3.cell? ⟨bm, 0, none⟩ = some (.slice (some ad) l.length c0) := (blk_cell hB3.bm 0).trans rfl
        have cn0 : W3.cell? ⟨bn, 0, none⟩ = some (.int .i64 x) := (blk_cell hB3.bn 0).trans rfl
        have fn0 : W3.frozen? ⟨bn, 0, none⟩ = false := blk_frozen hB3.bn 0
        have dm0 : (W3.setCell ⟨bn, 0, none⟩ (.int .i64 t')).cell? ⟨bm, 0, none⟩ = some (.slice (some ad) l.length c0) := (blk_cell HB4.out.bm 0).trans rfl
        have dm1 : (W3.setCell ⟨bn, 0, none⟩ (.int .i64 t')).cell? ⟨bm, 1, none⟩ = some (.map (some b1)) := (blk_cell HB4.out.bm 1).trans rfl
        have dm2 : (W3.setCell ⟨bn, 0, none⟩ (.int .i64 t')).cell? ⟨bm, 2, none⟩ = some (.map (some b2)) := (blk_cell HB4.out.bm 2).trans rfl
        have dn0 : (W3.setCell ⟨bn, 0, none⟩ (.int .i64 t')).cell? ⟨bn, 0, none⟩ = some (.int .i64 t') := (blk_cell HB4.out.bn 0).trans rfl
        clear e0 e1 e3 e4 hB3 hR3 hE3 ht'
        gi_wp2_with (first | (refine ⟨trivial, (fun h => by cases h), ?_⟩; refine (callsIn_wide.2 (counts_calls (some ad) l.length c0 b1 b2 n1 n2 G C t' _ HB4.out.set HB4.out.con HTI.out (HC.out _))).mono ?_; rintro e W5 ⟨rfl, hb5⟩; have HB5 := Aside0.mk hb5; clear hb5))
        have HNW := Aside0.mk (show ∃ m', m' < m ∧ WRel R RF E N (fun x W => Base w0 (some ad) c0 l b1 b2 n1 n2 bm bn G C x W) (cnt G C) m' (.int .i64 ((cnt G C t').getD 0)) (.bool (cnt G C t').isSome) W5 by
          have h := HN4.out _ ((grown_put W3 bn (.int .i64 t')).trans (grown_below HB5.out (some bn)))
          have hE5 := HE.out _ _ HE4.out (Sees.below HB5.out)
          have hmk := HMK.out
          cases hc : cnt G C t' with
          | some j =>
            rw [hc] at h
            exact ⟨N + 1 - (k + 1), by omega, hE5, .inl ⟨k + 1, t', j, rfl, rfl, HB4.out.below HB5.out, hc, HTI.out, h, rfl⟩⟩
          | none =>
            rw [hc] at h
            exact ⟨0, by omega, hE5, .inr ⟨0, rfl, rfl, h, rfl⟩⟩)
        go_roundw
        case rel => exact ⟨_, HNW.out.choose_spec.2⟩
        case measure =>
          obtain ⟨m', hlt, h⟩ := HNW.out
          rw [← HM.out]
          exact Nat.lt_of_le_of_lt ((leastOf_spec ⟨m', h⟩).2 m' h) hlt
      · gi_wp2
        go_end0
        exact ⟨⟨_, rfl⟩, .inr hJx⟩
    · have HF := Aside0.mk hF
      have HEE := Aside0.mk hE
      clear hm hmk hF hE
      gi_wp2
      refine ⟨(fun _ h => (by cases h)), ?_⟩
      gi_wp2
      go_end0
      exact ⟨⟨_, rfl⟩, .inl ⟨HF.out, HEE.out⟩⟩
end
end Go.Proofs.YtkfejgdeknemaaaGreatDoor.Fw
end
section
namespace Go.Proofs.YtkfejgdeknemaaaGreatDoor.Fw
open Go.RowKit Go.Shelf Go.Proofs.YtkfejgdeknemaaaGreatDoorW.PrintWords Go.Proofs.YtkfejgdeknemaaaGreatDoorW.PrintLast Go.Proofs.YtkfejgdeknemaaaGreatDoorW.PrintMore Go.Proofs.GRange
set_option linter.unusedVariables false
def idxI (x : Int) : List Int → Nat → Int
  | [], _ => -1
  | y :: ys, i => if x = y then (i : Int) else idxI x ys (i + 1)
theorem idxI_ge (x : Int) : ∀ (l : List Int) (i : Nat), decide (idxI x l i ≥ 0) = l.contains x
  | [], i => by simp [idxI]
  | y :: ys, i => by
    unfold idxI
    by_cases h : x = y
    · simp [h]
    · rw [if_neg h, idxI_ge x ys (i + 1)]; simp [h]
set_option maxHeartbeats 1000000 in
set_option maxRecDepth 100000 in
theorem indexI_calls (x : Int) (A0 : Option Addr) (c0 : Nat) (l : List Int) (w : World) (hr0 : Kd.C (Kd.int .i64) w A0 l.length l) (hl : l.length ≤ 1000) :
    Calls Tryz.prog 51 #[.slice A0 l.length c0, .int .i64 x] w fun e w' => e = .returned (.int .i64 (idxI x l 0)) ∧ w' = w := by
  have HR0 := Aside0.mk hr0
  clear hr0
  go_enter Tryz.func51, Tryz.ntmps51
  go_wp2
  go_loopw [8] (fun v wr => ∃ i : Nat, i ≤ l.length ∧ v = .int .i64 i ∧ Aside0 (idxI x (l.drop i) i = idxI x l 0) ∧ wr = w) (fun v _ => l.length - (intOf v).toNat)
  case atStart => exact ⟨0, Nat.zero_le _, rfl, ⟨rfl⟩, rfl⟩
  case round =>
    obtain ⟨i, hi, rfl, HG, rfl⟩ := hrel
    by_cases hlt : i < l.length
    · obtain ⟨ad, hA, h0⟩ := Kd.at_int HR0.out (i : Int) (by omega) (by omega)
      subst hA
      rw [Int.toNat_natCast] at h0
      have hdrop : l.drop i = rd l i :: l.drop (i + 1) := by
        rw [List.drop_eq_getElem_cons hlt]; simp [rd, hlt]
      have HG2 := HG.out
      rw [hdrop] at HG2
      simp only [idxI] at HG2
      clear hdrop HG
      generalize rd l i = y at *
      by_cases hc : x = y
      · rw [if_pos hc] at HG2
        subst hc
        have HG3 := Aside0.mk HG2
        clear HG2
        go_wp2
        go_ret
        exact ⟨by rw [← HG3.out]; rfl, rfl⟩
      · rw [if_neg hc] at HG2
        have HG3 := Aside0.mk HG2
        clear HG2
        go_wp2
        go_roundw
        case rel => exact ⟨i + 1, by omega, by go_num, HG3, trivial⟩
        case measure => simp [intOf]; omega
    · obtain rfl : i = l.length := by omega
      have HG2 := HG.out
      rw [List.drop_length] at HG2
      have HG3 := Aside0.mk HG2
      clear HG HG2
      go_wp2
      go_ret
      exact ⟨by rw [← HG3.out]; rfl, rfl⟩
set_option maxHeartbeats 1000000 in
set_option maxRecDepth 100000 in
theorem containsI_calls (x : Int) (A0 : Option Addr) (c0 : Nat) (l : List Int) (w : World) (hr0 : Kd.C (Kd.int .i64) w A0 l.length l) (hl : l.length ≤ 1000) :
    Calls Tryz.prog 33 #[.slice A0 l.length c0, .int .i64 x] w fun e w' => e = .returned (.bool (l.contains x)) ∧ w' = w := by
  have HC := Aside0.mk (indexI_calls x A0 c0 l w hr0 hl)
  have HV := Aside0.mk (idxI_ge x l 0)
  clear hr0
  generalize idxI x l 0 = z at *
  generalize l.contains x = v at *
  cases v with
  | true =>
    have hx : 0 ≤ z := by simpa using HV.out
    have hx2 : decide (z ≥ 0) = true := HV.out
    go_enter Tryz.func33, Tryz.ntmps33
    go_wp2_with (first | (go_at_call 51; refine HC.out.mono ?_; rintro e w2 ⟨rfl, rfl⟩))
    go_ret
    exact ⟨rfl, rfl⟩
  | false =>
    have hx : ¬ 0 ≤ z := by simpa using HV.out
    have hx2 : decide (z ≥ 0) = false := HV.out
    go_enter Tryz.func33, Tryz.ntmps33
    go_wp2_with (first | (go_at_call 51; refine HC.out.mono ?_; rintro e w2 ⟨rfl, rfl⟩))
    go_ret
    exact ⟨rfl, rfl⟩
def resGo (cn C : Int → Option Int) (l : List S41) : Nat → List Int → List Int → Int → Int × List Int × List Int
  | 0, p, u, _ => (6, p, u)
  | f + 1, p, u, x => match cn x with
    | none => (max ((C x).getD 0) 1, p, u)
    | some i => if u.length = 5 then (6, p, u) else if p.contains (toOf l i) = true then (5, p ++ [toOf l i], u ++ [i]) else resGo cn C l f (p ++ [toOf l i]) (u ++ [i]) (toOf l i)
abbrev gOf (l : List S41) (t : Int) : Int → Int → Option Int := setsTo t l 0 (fun _ _ => none)
abbrev cOf (cs : List S37) : Int → Option Int := consTo cs (fun _ => none)
def resS (l : List S41) (cs : List S37) (n t : Int) : Int × List Int × List Int := resGo (cnt (gOf l t) (cOf cs)) (cOf cs) l 6 [n] [] n
def forward_Resolve.f (l : List S41) (cs : List S37) (n t : Int) : Option (Int × List Int × List Int × Int) :=
  if valS l cs && (inB n 0 99999999 && inB t 0 10000000) then some ((resS l cs n t).1, (resS l cs n t).2.1, (resS l cs n t).2.2, 0) else some (0, [], [], 220)
theorem inB_iff {n a b : Int} : inB n a b = true ↔ a ≤ n ∧ n ≤ b := by simp [inB]
theorem areGo_formed : ∀ (l pre : List S41), areGo pre l = true → ∀ s ∈ l, formed s = true
  | [], _, _, s, hs => by cases hs
  | x :: xs, pre, h, s, hs => by
    simp only [areGo, Bool.and_eq_true] at h
    rcases List.mem_cons.1 hs with rfl | hs
    · exact h.1
    · exact areGo_formed xs _ h.2.2 s hs
theorem badAny_ok : ∀ (cs : List S37) (la : Int), badAny la cs = false → ∀ c ∈ cs, inB c.f0 0 99999999 = true ∧ inB c.f1 2 4 = true
  | [], _, _, c, hc => by cases hc
  | x :: xs, la, h, c, hc => by
    simp only [badAny, badC, Bool.or_eq_false_iff, Bool.not_eq_false'] at h
    rcases List.mem_cons.1 hc with rfl | hc
    · exact h.1.2
    · exact badAny_ok xs _ h.2 c hc
theorem setsTo_range (t : Int) (N : Nat) : ∀ (l : List S41) (i : Nat) (G : Int → Int → Option Int), i + l.length ≤ N → (∀ x k j, G x k = some j → 0 ≤ j ∧ j < N) → ∀ x k j, setsTo t l i G x k = some j → 0 ≤ j ∧ j < N
  | [], _, G, _, hG => hG
  | s :: ss, i, G, hN, hG => by
    refine setsTo_range t N ss (i + 1) _ (by simp at hN; omega) ?_
    intro x k j h
    unfold setG at h
    split at h
    · have := Option.some.inj h; simp at hN; omega
    · exact hG x k j h
theorem consTo_in (P : Int → Prop) : ∀ (cs : List S37) (C : Int → Option Int), (∀ c ∈ cs, P c.f1) → (∀ x v, C x = some v → P v) → ∀ x v, consTo cs C x = some v → P v
  | [], C, _, hC => hC
  | c :: cs, C, h, hC => by
    refine consTo_in P cs _ (fun d hd => h d (List.mem_cons_of_mem _ hd)) ?_
    intro x v hv
    unfold conC at hv
    split at hv
    · have := Option.some.inj hv; subst this; exact h c List.mem_cons_self
    · exact hC x v hv
theorem in64_of {n a b : Int} (h : inB n a b = true) (ha : -9223372036854775808 ≤ a) (hb : b ≤ 9223372036854775807) : In64 n := by
  obtain ⟨h1, h2⟩ := inB_iff.1 h
  exact ⟨by omega, by omega⟩
structure ValF (l : List S41) (cs : List S37) (t : Int) : Prop where
  len : l.length ≤ 40
  lenc : cs.length ≤ 40
  wl : ∀ s ∈ l, In64 s.f0 ∧ In64 s.f1
  wt : ∀ s ∈ l, In64 s.f2
  wc : ∀ c ∈ cs, In64 c.f0
  g : ∀ x k i, gOf l t x k = some i → 0 ≤ i ∧ i < l.length
  c : ∀ x, In64 ((cOf cs x).getD 0)
theorem valF {l : List S41} {cs : List S37} (h : valS l cs = true) (t : Int) : ValF l cs t := by
  simp only [valS, areS, Bool.and_eq_true, decide_eq_true_eq, Bool.not_eq_true'] at h
  obtain ⟨⟨h1, h2⟩, h3, h4⟩ := h
  have hf := areGo_formed l [] h2
  have hb := badAny_ok cs _ h4
  have hff : ∀ s ∈ l, In64 s.f0 ∧ In64 s.f1 ∧ In64 s.f2 := fun s hs => by
    have h := hf s hs
    simp only [formed, Bool.and_eq_true] at h
    exact ⟨in64_of h.1 (by omega) (by omega), in64_of h.2.2.2.1 (by omega) (by omega), in64_of h.2.1 (by omega) (by omega)⟩
  refine ⟨h1, h3, fun s hs => ⟨(hff s hs).1, (hff s hs).2.1⟩, fun s hs => (hff s hs).2.2, fun c hc => in64_of (hb c hc).1 (by omega) (by omega), ?_, ?_⟩
  · exact setsTo_range t l.length l 0 _ (by omega) (fun _ _ _ h => by cases h)
  · intro x
    cases hx : cOf cs x with
    | none => exact in64_zero
    | some v => exact consTo_in In64 cs _ (fun c hc => in64_of (hb c hc).2 (by omega) (by omega)) (fun _ _ h => by cases h) x v hx
end Go.Proofs.YtkfejgdeknemaaaGreatDoor.Fw
end
