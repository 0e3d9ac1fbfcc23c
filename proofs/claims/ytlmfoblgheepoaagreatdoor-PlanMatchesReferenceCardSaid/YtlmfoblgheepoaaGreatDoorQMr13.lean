/- Mr: part 14 of the proof that the law's row holds: the printed walk of the program's functions, the plain law, the row. -/
import Derived.Test.YtlmfoblgheepoaaGreatDoorRows
import Derived.Test.YtlmfoblgheepoaaGreatDoorTie
import Derived.Test.YtlmfoblgheepoaaGreatDoorCards
import Derived.WalkKit
import Derived.ProofKit
import Derived.OpenShut
import Derived.ShutString
import Derived.ChangeOld
import Derived.Below
import Derived.SizedLaws
import Derived.Lay
import Derived.LaidOnce
import Derived.SevenTiedAt
import Derived.LaidByTextLater
import Derived.Lib.LaidTab
import Derived.Lib.LaidU8
import Derived.Stop.Joined
import Derived.Test.YtlmfoblgheepoaaGreatDoorQMr2
import Derived.Test.YtlmfoblgheepoaaGreatDoorQMr12
section
namespace Go.Proofs.YtlmfoblgheepoaaGreatDoor.Row
open Go.ChangeShapes Go.WideShapes Go.ChangeAt Go.RowKit Go.Proofs.GOpen Go.Proofs.YtlmfoblgheepoaaGreatDoor.Pl Go.Proofs.YtlmfoblgheepoaaGreatDoorW.PrintWords
open Go.ChangeMaps (open_string shut_string)
set_option maxRecDepth 100000
theorem own : ownKnob Tryz.prog.godebug = none := by kernel_rfl
theorem laidOut : laidOutB Tryz.prog = true := by kernel_rfl
theorem rngI64 {n : Int} (h : (Lit.int .i64 n).wf = true) : -9223372036854775808 ≤ n ∧ n ≤ 9223372036854775807 := by simpa [Lit.wf, IntKind.min, IntKind.max, IntKind.signed, IntKind.bits] using h
def I64 (n : Int) : Prop := -9223372036854775808 ≤ n ∧ n ≤ 9223372036854775807
theorem gPow : Tryz.prog.globalNamed "internal/strconv.uint64pow10" = some 4 := by kernel_rfl
theorem gPowType : (Tryz.prog.globals[4]?).map (·.type) = some 154 := by kernel_rfl
theorem powData : (Rows.laid_internal_strconv_uint64pow10 : DataW Unit) = Lib.tabData .u64 Lib.pow10Tab := by rfl
theorem glb_of_reads {W : World} (h : Lib.VarReads Tryz.prog W "internal/strconv.uint64pow10" Rows.laid_internal_strconv_uint64pow10) : Glb W := by
  rw [powData] at h
  obtain ⟨g, t, cs, fuel, p, h1, h2, h3, h4⟩ := h
  obtain rfl := Option.some.inj (gPow.symm.trans h1)
  obtain rfl := Option.some.inj (gPowType.symm.trans h2)
  unfold Glb Lib.TabIs
  rw [h3, ← Lib.cells_of_tab Tryz.underlying154 Tryz.underlying123 (by kernel_rfl) (by kernel_rfl) h4]
theorem read22 {H : Type} {enc : TypeId × Value → H} {W : World} {base : Nat} {spare : Nat → Bool} {held : Bool} {a : Option Addr} {len cap : Nat} {d : DataW H} {p : List MemPlace} (h : DataW.Trod enc Tryz.prog W base spare held 22 (.slice a len cap) d p) :
    ∃ l : List S23, l.length = len ∧ len ≤ cap ∧ len ≤ 9223372036854775807 ∧ Kd.C k23 W a l.length l ∧ ∀ x ∈ l, I64 x.f0 ∧ I64 x.f1 ∧ I64 x.f2 := by
  rcases open_slice_arrays Tryz.underlying22 Tryz.underlying23 Tryz.underlying3 (by kernel_rfl) (by kernel_rfl) h with ⟨rfl, rfl, rfl⟩ | ⟨ad, rfl, hl, hm, Z, hZ⟩
  · exact ⟨[], rfl, Nat.le_refl _, by omega, ⟨rfl, by simp, fun h0 => absurd h0 (by simp)⟩, fun x hx => by cases hx⟩
  · unfold maxLen at hm
    have hlen : ((List.range len).map fun i => (⟨Z i 0, Z i 1, Z i 2⟩ : S23)).length = len := by simp
    refine ⟨(List.range len).map fun i => (⟨Z i 0, Z i 1, Z i 2⟩ : S23), hlen, hl, by omega, ⟨rfl, by rw [hlen]; omega, fun _ => ⟨ad, rfl, fun j x hx => ?_⟩⟩, fun x hx => ?_⟩
    · have hj : j < len := by have := (List.getElem?_eq_some_iff.1 hx).1; simpa using this
      obtain rfl : (⟨Z j 0, Z j 1, Z j 2⟩ : S23) = x := by simpa [hj] using hx
      refine ⟨[.int .i64 (Z j 0), .int .i64 (Z j 1), .int .i64 (Z j 2)], rfl, k23_mk _ _, fun q u hu => ?_⟩
      have hq : q < 3 := by have := (List.getElem?_eq_some_iff.1 hu).1; simpa using this
      show W.cell? (ad.add (j * 3 + q)) = some u
      rw [(hZ j hj q hq).1]
      match q, hq, hu with
      | 0, _, hu => exact hu
      | 1, _, hu => exact hu
      | 2, _, hu => exact hu
    · obtain ⟨i, hi, rfl⟩ := List.mem_map.1 hx
      have hi2 : i < len := by simpa using hi
      exact ⟨rngI64 (hZ i hi2 0 (by omega)).2, rngI64 (hZ i hi2 1 (by omega)).2, rngI64 (hZ i hi2 2 (by omega)).2⟩
theorem read25 {H : Type} {enc : TypeId × Value → H} {W : World} {base : Nat} {spare : Nat → Bool} {held : Bool} {a : Option Addr} {len cap : Nat} {d : DataW H} {p : List MemPlace} (h : DataW.Trod enc Tryz.prog W base spare held 25 (.slice a len cap) d p) :
    ∃ l : List Int, l.length = len ∧ len ≤ cap ∧ len ≤ 9223372036854775807 ∧ Kd.C (Kd.int .i64) W a l.length l ∧ ∀ x ∈ l, I64 x := by
  obtain ⟨fuel, hf⟩ := h
  rcases open_ints Tryz.underlying25 Tryz.underlying3 (by kernel_rfl) hf with ⟨hcs, _⟩ | ⟨ad, l, c, zs, hcs, _, hl, hm, hzl, _, hcell, hwf⟩
  · simp [Value.cells] at hcs
    obtain ⟨rfl, rfl, rfl⟩ := hcs
    exact ⟨[], rfl, Nat.le_refl _, by omega, ⟨rfl, by simp, fun h0 => absurd h0 (by simp)⟩, fun x hx => by cases hx⟩
  · simp [Value.cells] at hcs
    obtain ⟨rfl, rfl, rfl⟩ := hcs
    unfold maxLen at hm
    have hz : len ≤ zs.length := by rw [hzl]; split <;> omega
    have hlen : (zs.take len).length = len := by rw [List.length_take]; omega
    refine ⟨zs.take len, hlen, hl, by omega, ⟨rfl, by rw [hlen]; omega, fun _ => ⟨ad, rfl, fun j x hx => ?_⟩⟩, fun x hx => rngI64 (hwf x (List.mem_of_mem_take hx))⟩
    have hj : j < len := by have := (List.getElem?_eq_some_iff.1 hx).1; omega
    refine ⟨[.int .i64 x], rfl, rfl, fun q u hu => ?_⟩
    have hq : q = 0 := by have := (List.getElem?_eq_some_iff.1 hu).1; simpa using this
    subst hq
    show W.cell? (ad.add (j * 1 + 0)) = some u
    have hx' : zs[j]? = some x := by rw [List.getElem?_take] at hx; simpa [hj] using hx
    rw [Nat.mul_one, Nat.add_zero, hcell j (by omega), List.getD_eq_getElem?_getD, hx']
    simpa using hu
end Go.Proofs.YtlmfoblgheepoaaGreatDoor.Row
end
section
namespace Go.Proofs.YtlmfoblgheepoaaGreatDoor.Pure
open Go.RowKit Go.Proofs.YtlmfoblgheepoaaGreatDoorW.PrintWords Go.Proofs.YtlmfoblgheepoaaGreatDoorW.PrintLast Go.Proofs.YtlmfoblgheepoaaGreatDoorW.PrintMore Go.Proofs.YtlmfoblgheepoaaGreatDoor.Pl Go.Proofs.YtlmfoblgheepoaaGreatDoor.Row
set_option linter.unusedVariables false
set_option linter.unusedSimpArgs false
structure Tx (ts : List ByteArray) (n : Nat) : Prop where
  pos : 0 < ts.length
  len : ts.length ≤ n
  sz : ∀ s ∈ ts, s.size ≤ 1000
section
variable (x3 : List Int) (x7 x8 : Int) (x24 : Int) (p : List S29) (hf : Fits p)
variable (x119 : List Int) (x120 x121 : Int) (ph : Int)
include hf
theorem m5 (ts : List ByteArray) (hts : Tx ts 1000) (hnext : Ev (fun k => dialtonelaw12_PlanMatchesReference_round.l0 k x3 x7 x8 x24 p ts x119 x120 (wrap64 (x121 + 1))) ()) :
    ∀ r i : Nat, r + i = ts.length → Ev (fun k => dialtonelaw12_PlanMatchesReference_round.l3 k x3 x7 x8 x24 p ts ph x119 x120 x121 ts (ts.length : Int) (i : Int)) ()
  | 0, i, h => by
    refine Ev.step (fun k => by rw [dialtonelaw12_PlanMatchesReference_round.l3]) ?_
    have h1 : ¬ (i : Int) < ts.length := by omega
    simp only [h1, if_false]
    exact hnext
  | r + 1, i, h => by
    have hl := hts.len
    have hp := hts.pos
    refine Ev.step (fun k => by rw [dialtonelaw12_PlanMatchesReference_round.l3]) ?_
    have h1 : (i : Int) < ts.length := by omega
    have h2 : (0 : Int) ≤ i := by omega
    have h3 : (0 : Int) < ts.length := by omega
    have hi : i < ts.length := by omega
    have g1 : rdOf ByteArray.empty ts (i : Int) = b ts[i].data.toList := by rw [b_of]; unfold rdOf; simp [hi]
    have g0 : rdOf ByteArray.empty ts 0 = b ts[0].data.toList := by rw [b_of]; unfold rdOf; simp [hp]
    have z1 : ts[i].data.toList.length ≤ 1000 := by rw [← Lib.size_eq]; exact hts.sz _ (List.getElem_mem hi)
    have z0 : ts[0].data.toList.length ≤ 1000 := by rw [← Lib.size_eq]; exact hts.sz _ (List.getElem_mem hp)
    simp only [h1, h2, h3, if_true, g1, g0]
    refine Ev.bind (read_all p hf _ z1 ph) ?_
    refine Ev.bind (rread_all p hf _ z1 ph) ?_
    simp only [beq_self_eq_true, Bool.not_true, Bool.or_self, Bool.false_eq_true, if_false, if_true]
    refine Ev.bind (same_all p hf _ _ z1 z0) ?_
    refine Ev.bind (rsame_all p hf _ _ z1 z0) ?_
    simp only [bne_self_eq_false, Bool.false_eq_true, if_false, wi i (by omega)]
    exact m5 ts hts hnext r (i + 1) (by omega)
theorem m4 (ts : List ByteArray) (hts : Tx ts 1000) (hnext : Ev (fun k => dialtonelaw12_PlanMatchesReference_round.l0 k x3 x7 x8 x24 p ts x119 x120 (wrap64 (x121 + 1))) ()) (is : List Int) (his : is.length ≤ 1000) :
    ∀ r i : Nat, r + i = is.length → Ev (fun k => dialtonelaw12_PlanMatchesReference_round.l2 k x3 x7 x8 x24 p ts ph x119 x120 x121 is (is.length : Int) (i : Int)) ()
  | 0, i, h => by
    refine Ev.step (fun k => by rw [dialtonelaw12_PlanMatchesReference_round.l2]) ?_
    have h1 : ¬ (i : Int) < is.length := by omega
    simp only [h1, if_false]
    exact m5 x3 x7 x8 x24 p hf x119 x120 x121 ph ts hts hnext ts.length 0 (by omega)
  | r + 1, i, h => by
    refine Ev.step (fun k => by rw [dialtonelaw12_PlanMatchesReference_round.l2]) ?_
    have h1 : (i : Int) < is.length := by omega
    have h2 : (0 : Int) ≤ i := by omega
    simp only [h1, h2, if_true]
    refine Ev.bind (range_all p hf _ ph) ?_
    refine Ev.bind (rrange_all p hf _ ph) ?_
    simp only [beq_self_eq_true, Bool.not_true, Bool.or_self, Bool.false_eq_true, if_false, if_true, wi i (by omega)]
    exact m4 ts hts hnext is his r (i + 1) (by omega)
omit hf in
theorem wAll_len (n ph : Int) : (wAll p n ph).1.length ≤ 8 := by
  unfold wAll
  split
  · rename_i h
    rw [Bool.and_eq_true] at h
    exact (wS_first h.1 _ _).2
  · show ([] : D).length ≤ 8; decide
theorem m3 (hx3 : Ints1 x3) (hlen3 : x3.length ≤ 9223372036854775807) (hx8 : J64 x8) (ns : List Int) (hns : ns.length ≤ 2) (N : Nat) (hN : N ≤ 100) (hnext : ∀ ts, Tx ts N → Ev (fun k => dialtonelaw12_PlanMatchesReference_round.l0 k x3 x7 x8 x24 p ts x119 x120 (wrap64 (x121 + 1))) ()) :
    ∀ r i : Nat, r + i = ns.length → ∀ ts n, Tx ts n → n + 2 * r ≤ N → Ev (fun k => dialtonelaw12_PlanMatchesReference_round.l1 k x3 x7 x8 x24 p ts ph x119 x120 x121 ns (ns.length : Int) (i : Int)) ()
  | 0, i, h, ts, n, hts, hn => by
    refine Ev.step (fun k => by rw [dialtonelaw12_PlanMatchesReference_round.l1]) ?_
    have h1 : ¬ (i : Int) < ns.length := by omega
    obtain ⟨q, lq, eq⟩ := pick_lt x8 hx8 9 (by decide)
    have eq' : dialtonelaw12_pick.f x8 9 = some (q : Int) := eq
    simp only [h1, if_false, eq', Option.bind_some]
    have h100 : Tx ts N := ⟨hts.pos, by have := hts.len; omega, hts.sz⟩
    have h1000 : Tx ts 1000 := ⟨hts.pos, by have := hts.len; omega, hts.sz⟩
    exact m4 x3 x7 x8 x24 p hf x119 x120 x121 ph ts h1000 (hnext ts h100) [x8, (q : Int)] (by simp) 2 0 rfl
  | r + 1, i, h, ts, n, hts, hn => by
    have hl := hts.len
    refine Ev.step (fun k => by rw [dialtonelaw12_PlanMatchesReference_round.l1]) ?_
    have h1 : (i : Int) < ns.length := by omega
    have h2 : (0 : Int) ≤ i := by omega
    obtain ⟨t, td, tl, t0, tle, tev⟩ := text_take x3 hx3 8 (by decide) hlen3
    have t0' : (0 : Int) ≤ mn (x3.length : Int) 8 := t0
    have tle' : mn (x3.length : Int) 8 ≤ x3.length := tle
    have wl := wAll_len p (rd ns (i : Int)) ph
    simp only [h1, h2, if_true]
    refine Ev.bind (write_all p hf _ ph) ?_
    refine Ev.bind (rwrite_all p hf _ ph) ?_
    simp only [if_true, t0', tle']
    refine Ev.bind tev ?_
    generalize wAll p (rd ns (i : Int)) ph = w at *
    have s1 : (b w.1).size + (b t).size ≤ 9223372036854775807 := by rw [b_size, b_size]; omega
    have s2 : wrap64 (((b w.1).size : Int) / 2) = (((b w.1).size / 2 : Nat) : Int) := by rw [b_size, w64 (by omega) (by omega)]; omega
    have s3 : (0 : Int) ≤ (((b w.1).size / 2 : Nat) : Int) := by omega
    have s4 : (((b w.1).size / 2 : Nat) : Int) ≤ (b w.1).size := by omega
    have s5 : ts.length + 2 < 8796093022208 := by omega
    have l2 : ([b w.1 ++ b t, (b w.1).extract 0 ((b w.1).size / 2)] : List ByteArray).length = 2 := rfl
    simp only [s1, s2, s3, s4, if_true, Option.bind_some, Int.toNat_natCast, l2, s5, wi i (by omega)]
    refine m3 hx3 hlen3 hx8 ns hns N hN hnext r (i + 1) (by omega) _ (n + 2) ⟨by rw [List.length_append]; have := hts.pos; omega, by rw [List.length_append, l2]; omega, ?_⟩ (by omega)
    intro s hs
    rcases List.mem_append.mp hs with hs | hs
    · exact hts.sz s hs
    · rcases List.mem_cons.mp hs with rfl | hs
      · rw [b_append, b_size, List.length_append]; omega
      · rw [List.mem_singleton.mp hs, ext_take, b_size, List.length_take]; omega
end
theorem m2 (x3 : List Int) (x7 x8 x24 : Int) (hx3 : Ints1 x3) (hlen3 : x3.length ≤ 9223372036854775807) (hx8 : J64 x8) (p : List S29) (hf : Fits p) (phs : List Int) (hphs : phs.length ≤ 2) :
    ∀ r i : Nat, r + i = phs.length → ∀ ts n, Tx ts n → n + 4 * r ≤ 50 → Ev (fun k => dialtonelaw12_PlanMatchesReference_round.l0 k x3 x7 x8 x24 p ts phs (phs.length : Int) (i : Int)) ()
  | 0, i, h, ts, n, hts, hn => by
    have hl := hf.len
    refine Ev.step (fun k => by rw [dialtonelaw12_PlanMatchesReference_round.l0]) ?_
    have h1 : ¬ (i : Int) < phs.length := by omega
    simp only [h1, if_false]
    refine Ev.bind (valid_ev p (by omega) hf.sm) ?_
    refine Ev.bind (rvalid_ev p (by omega) hf.sm) ?_
    simp only [bne_self_eq_false, Bool.false_eq_true, if_false]
    exact Ev.now _
  | r + 1, i, h, ts, n, hts, hn => by
    refine Ev.step (fun k => by rw [dialtonelaw12_PlanMatchesReference_round.l0]) ?_
    have h1 : (i : Int) < phs.length := by omega
    have h2 : (0 : Int) ≤ i := by omega
    simp only [h1, h2, if_true, Option.bind_some]
    refine m3 x3 x7 x8 x24 p hf phs (phs.length : Int) (i : Int) (rd phs (i : Int)) hx3 hlen3 hx8 [x7, x24] (by simp) (n + 4) (by omega) (fun ts' hts' => ?_) 2 0 rfl ts n hts (by omega)
    rw [wi i (by omega)]
    exact m2 x3 x7 x8 x24 hx3 hlen3 hx8 p hf phs hphs r (i + 1) (by omega) ts' (n + 4) hts' (by omega)
theorem m1 (x3 : List Int) (x4 : ByteArray) (x5 x7 x8 x24 : Int) (hx3 : Ints1 x3) (hlen3 : x3.length ≤ 9223372036854775807) (hx4 : x4.size ≤ 9223372036854775807) (hx5 : J64 x5) (hx8 : J64 x8) (ps : List (List S29)) (hps : ∀ p ∈ ps, Fits p) (hpl : ps.length ≤ 3) :
    ∀ r i : Nat, r + i = ps.length → Ev (fun k => dialtonelaw12_PlanMatchesReference.l1 k x3 x4 x5 x7 x8 true x24 ps (ps.length : Int) (i : Int)) true
  | 0, i, h => by
    refine Ev.step (fun k => by rw [dialtonelaw12_PlanMatchesReference.l1]) ?_
    have h1 : ¬ (i : Int) < ps.length := by omega
    simp only [h1, if_false]
    exact Ev.now _
  | r + 1, i, h => by
    refine Ev.step (fun k => by rw [dialtonelaw12_PlanMatchesReference.l1]) ?_
    have h1 : (i : Int) < ps.length := by omega
    have h2 : (0 : Int) ≤ i := by omega
    have hi : i < ps.length := by omega
    obtain ⟨t, td, tl, tev⟩ := text_ev x3 hx3
    obtain ⟨q, lq, eq⟩ := pick_lt x5 hx5 3 (by decide)
    have eq' : dialtonelaw12_pick.f x5 3 = some (q : Int) := eq
    have m0 : (0 : Int) ≤ mn (x4.size : Int) 17 ∧ mn (x4.size : Int) 17 ≤ x4.size ∧ mn (x4.size : Int) 17 ≤ 17 := by unfold mn; split <;> omega
    have hr : rd_L3 ps (i : Int) = ps[i] := by unfold rd_L3; simp [hi]
    simp only [h1, h2, if_true, hr]
    refine Ev.bind (a := ()) ?_ ?_
    · unfold dialtonelaw12_PlanMatchesReference_round.f
      refine Ev.bind tev ?_
      simp only [m0.1, m0.2.1, if_true, eq', Option.bind_some]
      refine m2 x3 x7 x8 x24 hx3 hlen3 hx8 ps[i] (hps _ (List.getElem_mem hi)) [x5, wrap64 (1 + (q : Int))] (by simp) 2 0 rfl _ 3 ⟨by simp, by simp, ?_⟩ (by omega)
      intro s hs
      rcases List.mem_cons.mp hs with rfl | hs
      · rw [b_size]; omega
      · rcases List.mem_cons.mp hs with rfl | hs
        · rw [Lib.size_eq, Lib.extract_data, List.length_take, List.length_drop]; omega
        · rw [List.mem_singleton.mp hs]; show (⟨#[]⟩ : ByteArray).size ≤ 1000; decide
    · rw [wi i (by omega)]
      exact m1 x3 x4 x5 x7 x8 x24 hx3 hlen3 hx4 hx5 hx8 ps hps hpl r (i + 1) (by omega)
theorem m0 (l2 : List S29) (hl2 : l2.length ≤ 9223372036854775807) (x3 : List Int) (x4 : ByteArray) (x5 x6 x7 x8 : Int) (hx3 : Ints1 x3) (hlen3 : x3.length ≤ 9223372036854775807) (hx4 : x4.size ≤ 9223372036854775807) (hx5 : J64 x5) (hx6 : J64 x6) (hx7 : J64 x7) (hx8 : J64 x8) (p : List S29) (hv : vp p = true) (h8 : p.length ≤ 8) (c0 c1 c2 : Int) (hc0 : J64 c0) (hc1 : J64 c1) (hc2 : J64 c2) (hcz : ∀ c ∈ l2, c.f0.size ≤ 9223372036854775807 ∧ c.f1.size ≤ 9223372036854775807) :
    ∀ r i : Nat, r + i = 4 → ∀ few : List S29, smallP few → few.length ≤ i → Ev (fun k => dialtonelaw12_PlanMatchesReference.l0 k l2 x3 x4 x5 x6 x7 x8 true p few (i : Int) c0 c1 c2) true := by
  intro r
  have last : ∀ few : List S29, smallP few → few.length ≤ 4 → Ev (fun k => dialtonelaw12_PlanMatchesReference.j1 k x3 x4 x5 x6 x7 x8 true p few c0 c1 c2) true := by
    intro few hs hl
    refine Ev.step (fun k => by rw [dialtonelaw12_PlanMatchesReference.j1]) ?_
    obtain ⟨m, hm, evm⟩ := number_ev p hv x6 x7 hx6 hx7
    obtain ⟨q, hq, evq⟩ := bent_ev p hv h8 c0 c1 c2 hc0 hc1 hc2
    refine Ev.bind evm ?_
    refine Ev.bind evq ?_
    simp only [Option.bind_some]
    refine m1 x3 x4 x5 x7 x8 (m : Int) hx3 hlen3 hx4 hx5 hx8 [p, q, few] ?_ (by simp) 3 0 rfl
    intro z hz
    rcases List.mem_cons.mp hz with rfl | hz
    · exact ⟨by omega, vp_small hv⟩
    · rcases List.mem_cons.mp hz with rfl | hz
      · exact hq
      · rw [List.mem_singleton.mp hz]; exact ⟨by omega, hs⟩
  induction r with
  | zero =>
    intro i hi few hs hl
    refine Ev.step (fun k => by rw [dialtonelaw12_PlanMatchesReference.l0]) ?_
    have h4 : ¬ (i : Int) < 4 := by omega
    simp only [h4, if_false]
    have := last few hs (by omega)
    split <;> exact this
  | succ r ih =>
    intro i hi few hs hl
    refine Ev.step (fun k => by rw [dialtonelaw12_PlanMatchesReference.l0]) ?_
    by_cases h1 : (i : Int) < l2.length
    · have h4 : (i : Int) < 4 := by omega
      have h0 : (0 : Int) ≤ i := by omega
      have hin : i < l2.length := by omega
      have hz := hcz _ (List.getElem_mem hin)
      have m0 : (0 : Int) ≤ mn (l2[i].f0.size : Int) 6 ∧ mn (l2[i].f0.size : Int) 6 ≤ l2[i].f0.size ∧ mn (l2[i].f0.size : Int) 6 ≤ 6 := by unfold mn; split <;> omega
      have m1 : (0 : Int) ≤ mn (l2[i].f1.size : Int) 6 ∧ mn (l2[i].f1.size : Int) 6 ≤ l2[i].f1.size ∧ mn (l2[i].f1.size : Int) 6 ≤ 6 := by unfold mn; split <;> omega
      have hfl : few.length < 3518437208883 := by omega
      simp only [h1, h4, h0, if_true, rd29 l2 i hin, m0.1, m0.2.1, m1.1, m1.2.1, hfl, wi i (by omega)]
      refine ih (i + 1) (by omega) _ ?_ (by rw [List.length_append]; simp; omega)
      intro c hc
      rcases List.mem_append.mp hc with hc | hc
      · exact hs c hc
      · rw [List.mem_singleton.mp hc]
        constructor
        · show (l2[i].f0.extract 0 (mn (l2[i].f0.size : Int) 6).toNat).size ≤ 1000
          rw [Lib.size_eq, Lib.extract_data, List.length_take]; omega
        · show (l2[i].f1.extract 0 (mn (l2[i].f1.size : Int) 6).toNat).size ≤ 1000
          rw [Lib.size_eq, Lib.extract_data, List.length_take]; omega
    · simp only [h1, if_false]
      exact last few hs (by omega)
theorem PlanMatchesReference : ∀ (l0 : List S23) (a1_0 : Int) (a1_1 : Int) (a1_2 : Int) (l2 : List S29) (l3 : List Int) (a4 : ByteArray) (a5 : Int) (a6 : Int) (a7 : Int) (a8 : Int), l0.length ≤ 9223372036854775807 → (∀ x ∈ l0, I64 x.f0 ∧ I64 x.f1 ∧ I64 x.f2) → I64 a1_0 → I64 a1_1 → I64 a1_2 → l2.length ≤ 9223372036854775807 → (∀ x ∈ l2, x.f0.size ≤ 9223372036854775807 ∧ x.f1.size ≤ 9223372036854775807 ∧ I64 x.f2) → l3.length ≤ 9223372036854775807 → (∀ x ∈ l3, I64 x) → a4.size ≤ 9223372036854775807 → I64 a5 → I64 a6 → I64 a7 → I64 a8 → ∃ k, dialtonelaw12_PlanMatchesReference.f k l0 a1_0 a1_1 a1_2 l2 l3 a4 a5 a6 a7 a8 = some true := by
  intro l0 a1_0 a1_1 a1_2 l2 l3 a4 a5 a6 a7 a8 hlen hl h10 h11 h12 hlen2 hl2 hlen3 hl3 h4 h5 h6 h7 h8
  apply Ev.rounds
  obtain ⟨p, hv, hp8, evp⟩ := made_ev l0 hl
  unfold dialtonelaw12_PlanMatchesReference.f
  refine Ev.bind sane_ev ?_
  simp only [if_true]
  refine Ev.bind evp ?_
  exact m0 l2 hlen2 l3 a4 a5 a6 a7 a8 hl3 hlen3 h4 h5 h6 h7 h8 p hv hp8 a1_0 a1_1 a1_2 h10 h11 h12 (fun c hc => ⟨(hl2 c hc).1, (hl2 c hc).2.1⟩) 4 0 rfl [] (fun c hc => by cases hc) (by simp)
end Go.Proofs.YtlmfoblgheepoaaGreatDoor.Pure
end
