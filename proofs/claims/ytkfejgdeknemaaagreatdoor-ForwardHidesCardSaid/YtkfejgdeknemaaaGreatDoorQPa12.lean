/- Pa: part 13 of the proof that the law's row holds: the printed walk of the program's functions, the plain law, the row. -/
import Derived.DeepKeys4
import Derived.WalkSpells
import Derived.Test.YtkfejgdeknemaaaGreatDoorQPa1
import Derived.Test.YtkfejgdeknemaaaGreatDoorQPa11
section
namespace Go.Proofs.YtkfejgdeknemaaaGreatDoor.Fw
open Go.RowKit Go.Proofs.YtkfejgdeknemaaaGreatDoorW.PrintWords Go.Proofs.YtkfejgdeknemaaaGreatDoorW.PrintLast Go.Proofs.YtkfejgdeknemaaaGreatDoorW.PrintMore Go.Proofs.GMap Go.Maps
set_option linter.unusedVariables false
set_option maxRecDepth 100000
theorem laidOut : laidOutB Tryz.prog = true := by kernel_rfl
theorem row94 : (94 : TypeId) < Tryz.prog.types.size := of_decide_eq_true (by kernel_rfl)
theorem wide94 : (match Tryz.prog.underlying 94 with | some (.array _ _) | some (.struct _) => true | _ => false) = true := by rw [Tryz.underlying94]
theorem keyed94 : Keyed Tryz.prog 94 := Keyed.of_law (Go.deep_law_laid laidOut (m := 2) (by omega) row94 (by kernel_rfl) wide94)
theorem keyed3 : Keyed Tryz.prog 3 := int_keyed Tryz.underlying3
abbrev K (n k : Int) : Value := .agg #[.int .i64 n, .int .i64 k]
def In64 (n : Int) : Prop := -9223372036854775808 ≤ n ∧ n ≤ 9223372036854775807
theorem In64.wf {n : Int} (h : In64 n) : (Lit.int .i64 n).wf = true := by
  obtain ⟨h1, h2⟩ := h
  simp [Lit.wf, IntKind.min, IntKind.max, IntKind.signed, IntKind.bits]
  omega
theorem keyType94 : Tryz.prog.keyType 94 = true := by kernel_rfl
theorem cells94 : Tryz.prog.cellsOf 94 = 2 := by kernel_rfl
theorem cells3 : Tryz.prog.cellsOf 3 = 1 := by kernel_rfl
theorem size_types : ∃ m, Tryz.prog.types.size = m + 1 + 1 := ⟨Tryz.prog.types.size - 2, by have h : (94 : Nat) < Tryz.prog.types.size := row94; omega⟩
theorem key94 {n k : Int} (hn : In64 n) (hk : In64 k) : ∃ kl, keyOf Tryz.prog 94 (K n k) = some kl := by
  have w1 := hn.wf
  have w2 := hk.wf
  obtain ⟨m, hm⟩ := size_types
  refine ⟨.string (keyBytes [.int .i64 n, .int .i64 k]), ?_⟩
  unfold keyOf
  simp only [Tryz.underlying94]
  rw [if_pos (by simp [keyType94, Value.formed, Tryz.underlying94, cells94]), hm]
  unfold Program.keyLits
  simp only [Tryz.underlying94, Value.cells, cells94]
  rw [if_pos (by simp)]
  simp [Program.keyLits, Tryz.underlying3, cells3, w1, w2, List.mapM_cons, pure, bind]
theorem key3 {n : Int} (hn : In64 n) : keyOf Tryz.prog 3 (.int .i64 n) = some (.int .i64 n) := keyOf_int_mk Tryz.underlying3 hn.wf
end Go.Proofs.YtkfejgdeknemaaaGreatDoor.Fw
end
section
namespace Go.Proofs.YtkfejgdeknemaaaGreatDoor.Fw
open Go.RowKit Go.Proofs.YtkfejgdeknemaaaGreatDoorW.PrintWords Go.Proofs.YtkfejgdeknemaaaGreatDoorW.PrintLast Go.Proofs.YtkfejgdeknemaaaGreatDoorW.PrintMore Go.Proofs.GMap Go.Maps Go.Proofs.YtkfejgdeknemaaaGreatDoor.Fw
set_option linter.unusedVariables false
def hasAt (s : S41) (t : Int) : Bool := decide (s.f3.f0 ≤ t) && decide (t < s.f3.f1)
theorem has_f (s : S41) (t : Int) : forward_has.f s.f3.f0 s.f3.f1 t = some (hasAt s t) := by
  unfold forward_has.f hasAt
  by_cases h : s.f3.f0 ≤ t <;> simp [h]
def setG (t : Int) (s : S41) (i : Int) (G : Int → Int → Option Int) : Int → Int → Option Int := fun n k => if hasAt s t = true ∧ n = s.f0 ∧ k = s.f1 then some i else G n k
def setsTo (t : Int) : List S41 → Nat → (Int → Int → Option Int) → (Int → Int → Option Int)
  | [], _, G => G
  | s :: ss, i, G => setsTo t ss (i + 1) (setG t s i G)
def conC (c : S37) (C : Int → Option Int) : Int → Option Int := fun n => if n = c.f0 then some c.f1 else C n
def consTo : List S37 → (Int → Option Int) → (Int → Option Int)
  | [], C => C
  | c :: cs, C => consTo cs (conC c C)
def SetM (w : World) (b n : Nat) (G : Int → Int → Option Int) : Prop := ∃ F, MapV Tryz.prog 94 w b n F ∧ ∀ x k, F (K x k) = (G x k).map (Value.int .i64)
def ConM (w : World) (b n : Nat) (C : Int → Option Int) : Prop := ∃ F, MapV Tryz.prog 3 w b n F ∧ ∀ x, F (.int .i64 x) = (C x).map (Value.int .i64)
theorem SetM.below {w w' : World} {b n : Nat} {G : Int → Int → Option Int} (h : SetM w b n G) (hb : Below w.heap.size w w') : SetM w' b n G := let ⟨F, h, s⟩ := h; ⟨F, h.below hb, s⟩
theorem ConM.below {w w' : World} {b n : Nat} {C : Int → Option Int} (h : ConM w b n C) (hb : Below w.heap.size w w') : ConM w' b n C := let ⟨F, h, s⟩ := h; ⟨F, h.below hb, s⟩
theorem SetM.mono {w : World} {b n n' : Nat} {G : Int → Int → Option Int} (h : SetM w b n G) (hn : n ≤ n') : SetM w b n' G := let ⟨F, h, s⟩ := h; ⟨F, h.mono hn, s⟩
theorem ConM.mono {w : World} {b n n' : Nat} {C : Int → Option Int} (h : ConM w b n C) (hn : n ≤ n') : ConM w b n' C := let ⟨F, h, s⟩ := h; ⟨F, h.mono hn, s⟩
theorem SetM.setCell {w : World} {b n : Nat} {G : Int → Int → Option Int} (h : SetM w b n G) {a : Addr} (ha : b ≠ a.block) (u : Value) : SetM (w.setCell a u) b n G := let ⟨F, h, s⟩ := h; ⟨F, h.setCell ha u, s⟩
theorem ConM.setCell {w : World} {b n : Nat} {C : Int → Option Int} (h : ConM w b n C) {a : Addr} (ha : b ≠ a.block) (u : Value) : ConM (w.setCell a u) b n C := let ⟨F, h, s⟩ := h; ⟨F, h.setCell ha u, s⟩
theorem SetM.kept {w w' : World} {b n : Nat} {row : Option Nat} {G : Int → Int → Option Int} (h : SetM w b n G) (hg : w.grownBy w' row) (hne : some b ≠ row) : SetM w' b n G := let ⟨F, h, s⟩ := h; ⟨F, h.kept hg hne, s⟩
theorem ConM.kept {w w' : World} {b n : Nat} {row : Option Nat} {C : Int → Option Int} (h : ConM w b n C) (hg : w.grownBy w' row) (hne : some b ≠ row) : ConM w' b n C := let ⟨F, h, s⟩ := h; ⟨F, h.kept hg hne, s⟩
set_option maxHeartbeats 1000000 in
set_option maxRecDepth 100000 in
theorem at_calls (A0 : Option Addr) (c0 : Nat) (l : List S41) (A1 : Option Addr) (c1 : Nat) (cs : List S37) (t : Int) (w : World) (hr0 : Kd.C k41 w A0 l.length l) (hr1 : Kd.C k37 w A1 cs.length cs)
    (hl : l.length ≤ 1000) (hc : cs.length ≤ 1000) (hwl : ∀ s ∈ l, In64 s.f0 ∧ In64 s.f1) (hwc : ∀ c ∈ cs, In64 c.f0) :
    Calls Tryz.prog 31 #[.slice A0 l.length c0, .slice A1 cs.length c1, .int .i64 t] w fun e w' => ∃ b1 b2, e = .returned (.agg #[.slice A0 l.length c0, .map (some b1), .map (some b2)]) ∧
      SetM w' b1 1000 (setsTo t l 0 (fun _ _ => none)) ∧ ConM w' b2 1000 (consTo cs (fun _ => none)) ∧ Below w.heap.size w w' := by
  have HR0 := Aside0.mk hr0
  have HR1 := Aside0.mk hr1
  have HWL := Aside0.mk hwl
  have HWC := Aside0.mk hwc
  clear hr0 hr1 hwl hwc
  have hmm := @run_makeMap Tryz.prog
  go_enter Tryz.func31, Tryz.ntmps31
  go_wp2
  have hmk1 : MapV Tryz.prog 94 ((w.alloc (.cells #[.slice none 0 0, .map none, .map none] 73)).alloc (.map #[] 0)) (w.heap.size + 1) 0 (fun _ => none) := by
    have h := MapV.made Tryz.prog 94 (w.alloc (.cells #[.slice none 0 0, .map none, .map none] 73))
    rw [World.size_alloc] at h
    exact h
  have hmk2 : MapV Tryz.prog 3 (((w.alloc (.cells #[.slice none 0 0, .map none, .map none] 73)).alloc (.map #[] 0)).alloc (.map #[] 0)) (w.heap.size + 1 + 1) 0 (fun _ => none) := by
    have h := MapV.made Tryz.prog 3 ((w.alloc (.cells #[.slice none 0 0, .map none, .map none] 73)).alloc (.map #[] 0))
    rw [World.size_alloc, World.size_alloc] at h
    exact h
  have HM1 := Aside0.mk hmk1
  have HM2 := Aside0.mk hmk2
  clear hmk1 hmk2
  go_loopw [18] (fun v wr => ∃ i : Nat, i ≤ l.length ∧ v = .int .i64 i ∧ ∃ G, Aside0 (SetM wr (w.heap.size + 1) i G) ∧ Aside0 (setsTo t (l.drop i) i G = setsTo t l 0 (fun _ _ => none)) ∧ Aside0 (ConM wr (w.heap.size + 1 + 1) 0 (fun _ => none)) ∧
      Aside0 (wr.heap[w.heap.size]? = some (.cells #[.slice none 0 0, .map none, .map none] 73 (0, 0))) ∧ Aside0 (wr.heap[w.heap.size + 1 + 1 + 1]? = some (.cells #[.slice A0 l.length c0, .map (some (w.heap.size + 1)), .map (some (w.heap.size + 1 + 1))] 73 (0, 0))) ∧ Aside0 (Below w.heap.size w wr)) (fun v _ => l.length - (intOf v).toNat)
  case atStart =>
    refine ⟨0, Nat.zero_le _, rfl, fun _ _ => none, ⟨⟨_, (HM1.out.alloc _).alloc _, fun _ _ => rfl⟩⟩, ⟨rfl⟩, ⟨⟨_, HM2.out.alloc _, fun _ => rfl⟩⟩, ⟨?_⟩, ⟨?_⟩, ⟨?_⟩⟩
    · exact blk_alloc (blk_alloc (blk_alloc (blk_new _ _) _) _) _
    · have h := blk_new (((w.alloc (.cells #[.slice none 0 0, .map none, .map none] 73)).alloc (.map #[] 0)).alloc (.map #[] 0)) (.cells #[.slice A0 l.length c0, .map (some (w.heap.size + 1)), .map (some (w.heap.size + 1 + 1))] 73)
      rw [World.size_alloc, World.size_alloc, World.size_alloc] at h
      exact h
    · exact below_alloc (below_alloc (below_alloc (below_alloc (Below.refl _ _) _) _) _) _
  case round =>
    clear HM1 HM2
    obtain ⟨i, hi, rfl, G, HS, HG, HC, BK6, BK7, HB⟩ := hrel
    have hB7 : w.heap.size + 1 + 1 + 1 < wr.heap.size := blk_lt BK7.out
    by_cases hlt : i < l.length
    · obtain ⟨ad, hA, h0, h1, h2, h3, h4⟩ := at_T41 HR0.out (i : Int) (by omega) (by omega)
      subst hA
      rw [Int.toNat_natCast] at h0 h1 h2 h3 h4
      replace h0 := pw_cell_below HB.out h0
      replace h1 := pw_cell_below HB.out h1
      replace h2 := pw_cell_below HB.out h2
      replace h3 := pw_cell_below HB.out h3
      replace h4 := pw_cell_below HB.out h4
      have hdrop : l.drop i = rd_T41 l i :: l.drop (i + 1) := by
        rw [List.drop_eq_getElem_cons hlt]; simp [rd_T41, hlt]
      have hW := HWL.out (rd_T41 l i) (by rw [show rd_T41 l i = l[i] by simp [rd_T41, hlt]]; exact List.getElem_mem hlt)
      have HG2 := HG.out
      rw [hdrop] at HG2
      simp only [setsTo] at HG2
      clear hdrop HG
      generalize rd_T41 l i = s at *
      obtain ⟨kl, hkl⟩ := key94 hW.1 hW.2
      have HKL := Aside0.mk hkl
      clear hkl hW
      obtain ⟨b, hb⟩ : ∃ b, hasAt s t = b := ⟨_, rfl⟩
      have HH := Aside0.mk (show forward_has.f s.f3.f0 s.f3.f1 t = some b by rw [has_f, hb])
      have HG3 := Aside0.mk (show setsTo t (l.drop (i + 1)) (i + 1) (if b = true then setG t s i G else G) = setsTo t l 0 (fun _ _ => none) by
        rw [← HG2]; congr 1; cases b with
        | true => rfl
        | false => funext x k; simp [setG, hb])
      obtain ⟨F, hF1, hF2⟩ := HS.out
      have HF1 := Aside0.mk hF1
      have HF2 := Aside0.mk hF2
      have HHB := Aside0.mk hb
      clear hF1 hF2 HG2 hb HS
      cases b with
      | false =>
        go_wp2_with (first | (go_at_call 41; refine (forward_has.calls _ _ _ _ _ HH.out).mono ?_; rintro e w2 ⟨rfl, hb2⟩; have HB2 := Aside0.mk hb2; clear hb2))
        go_roundw
        case rel => exact ⟨i + 1, by omega, by go_num, G, ⟨⟨F, ((HF1.out.alloc _).below HB2.out).mono (by omega), HF2.out⟩⟩, HG3, ⟨(HC.out.below (below_alloc (Below.refl _ _) _)).below HB2.out⟩, ⟨blk_below (blk_alloc BK6.out _) HB2.out⟩, ⟨blk_below (blk_alloc BK7.out _) HB2.out⟩, ⟨below_step (below_alloc HB.out _) HB2.out⟩⟩
        case measure => simp [intOf]; omega
      | true =>
        go_wp2_with (first | (go_at_call 41; refine (forward_has.calls _ _ _ _ _ HH.out).mono ?_; rintro e w2 ⟨rfl, hb2⟩; have HB2 := Aside0.mk hb2; have k1 : w2.cell? ⟨w.heap.size + 1 + 1 + 1, 1, none⟩ = some (.map (some (w.heap.size + 1))) := (blk_cell (blk_below (blk_alloc BK7.out _) hb2) 1).trans rfl; have k2 : w2.cell? ⟨wr.heap.size, 0, none⟩ = some (.int .i64 s.f0) := (blk_cell (blk_below (blk_new wr _) hb2) 0).trans rfl; have k3 : w2.cell? ⟨wr.heap.size, 1, none⟩ = some (.int .i64 s.f1) := (blk_cell (blk_below (blk_new wr _) hb2) 1).trans rfl; clear hb2) | (at_mapUpdate; refine wpList_update _ rfl _ _ _ 70 rfl 94 3 keyed94 Tryz.underlying70 (w.heap.size + 1) i F rfl ((HF1.out.alloc _).below HB2.out) (by unfold maxLen; omega) (K s.f0 s.f1) (.int .i64 i) _ rfl rfl HKL.out ?_; intro w5 hm5 hg5))
        have HG5 := Aside0.mk hg5
        have HB5 := Aside0.mk (below_step (below_alloc HB.out _) HB2.out)
        have HM5 := Aside0.mk hm5
        clear hg5 hm5 k1 k2 k3
        go_roundw
        case rel =>
          refine ⟨i + 1, by omega, by go_num, setG t s i G, ⟨⟨_, HM5.out, fun x k => ?_⟩⟩, HG3, ⟨((HC.out.below (below_alloc (Below.refl _ _) _)).below HB2.out).kept HG5.out (by simp)⟩, ⟨?_⟩, ⟨?_⟩, ⟨HB5.out.grown HG5.out HB5.out.size (fun k e => by cases e; omega)⟩⟩
          · unfold setG
            by_cases h : x = s.f0 ∧ k = s.f1
            · obtain ⟨rfl, rfl⟩ := h
              rw [upd_same]; simp [HHB.out]
            · rw [upd_other _ _ (by simpa using h), HF2.out]
              simp only [HHB.out, true_and]
              rw [if_neg h]
          · exact (HG5.out.block _ (blk_lt (blk_below (blk_alloc BK6.out _) HB2.out)) (by simp <;> omega)).trans (blk_below (blk_alloc BK6.out _) HB2.out)
          · exact (HG5.out.block _ (blk_lt (blk_below (blk_alloc BK7.out _) HB2.out)) (by simp <;> omega)).trans (blk_below (blk_alloc BK7.out _) HB2.out)
        case measure => simp [intOf]; omega
    · obtain rfl : i = l.length := by omega
      have hG : G = setsTo t l 0 (fun _ _ => none) := by have := HG.out; rw [List.drop_length] at this; exact this
      have HS2 := Aside0.mk (show SetM wr (w.heap.size + 1) l.length (setsTo t l 0 (fun _ _ => none)) from hG ▸ HS.out)
      clear hG HG HS
      go_wp2
      go_loopw [38] (fun v wc => ∃ j : Nat, j ≤ cs.length ∧ v = .int .i64 j ∧ ∃ C, Aside0 (ConM wc (w.heap.size + 1 + 1) j C) ∧ Aside0 (consTo (cs.drop j) C = consTo cs (fun _ => none)) ∧ Aside0 (SetM wc (w.heap.size + 1) l.length (setsTo t l 0 (fun _ _ => none))) ∧
        Aside0 (wc.heap[w.heap.size]? = some (.cells #[.slice none 0 0, .map none, .map none] 73 (0, 0))) ∧ Aside0 (wc.heap[w.heap.size + 1 + 1 + 1]? = some (.cells #[.slice A0 l.length c0, .map (some (w.heap.size + 1)), .map (some (w.heap.size + 1 + 1))] 73 (0, 0))) ∧ Aside0 (Below w.heap.size w wc)) (fun v _ => cs.length - (intOf v).toNat)
      case atStart => exact ⟨0, Nat.zero_le _, rfl, fun _ => none, HC, ⟨rfl⟩, HS2, BK6, BK7, HB⟩
      case round =>
        clear HS2 HC BK6 BK7 HB hB7
        obtain ⟨j, hj, rfl, C, HC, HG, HS, BK6, BK7, HB⟩ := hrel
        have hB7 : w.heap.size + 1 + 1 + 1 < wr.heap.size := blk_lt BK7.out
        by_cases hjt : j < cs.length
        · obtain ⟨ad, hA, h0, h1⟩ := at_T37 HR1.out (j : Int) (by omega) (by omega)
          subst hA
          rw [Int.toNat_natCast] at h0 h1
          replace h0 := pw_cell_below HB.out h0
          replace h1 := pw_cell_below HB.out h1
          have hdrop : cs.drop j = rd_T37 cs j :: cs.drop (j + 1) := by
            rw [List.drop_eq_getElem_cons hjt]; simp [rd_T37, hjt]
          have hW := HWC.out (rd_T37 cs j) (by rw [show rd_T37 cs j = cs[j] by simp [rd_T37, hjt]]; exact List.getElem_mem hjt)
          have HG2 := HG.out
          rw [hdrop] at HG2
          simp only [consTo] at HG2
          have HG3 := Aside0.mk HG2
          clear hdrop HG HG2
          generalize rd_T37 cs j = s at *
          have HKL := Aside0.mk (key3 hW)
          obtain ⟨F, hF1, hF2⟩ := HC.out
          have HF1 := Aside0.mk hF1
          have HF2 := Aside0.mk hF2
          clear hF1 hF2 HC hW
          have k1 : wr.cell? ⟨w.heap.size + 1 + 1 + 1, 2, none⟩ = some (.map (some (w.heap.size + 1 + 1))) := (blk_cell BK7.out 2).trans rfl
          go_wp2_with (first | (at_mapUpdate; refine wpList_update _ rfl _ _ _ 71 rfl 3 3 keyed3 Tryz.underlying71 (w.heap.size + 1 + 1) j F rfl (HF1.out.alloc _) (by unfold maxLen; omega) (.int .i64 s.f0) (.int .i64 s.f1) _ rfl rfl HKL.out ?_; intro w5 hm5 hg5))
          have HG5 := Aside0.mk hg5
          have HM5 := Aside0.mk hm5
          have HB5 := Aside0.mk (below_alloc HB.out (.cells #[.int .i64 s.f0, .int .i64 s.f1] 37))
          clear hg5 hm5 k1
          go_roundw
          case rel =>
            refine ⟨j + 1, by omega, by go_num, conC s C, ⟨⟨_, HM5.out, fun x => ?_⟩⟩, HG3, ⟨(HS.out.below (below_alloc (Below.refl _ _) _)).kept HG5.out (by simp)⟩, ⟨?_⟩, ⟨?_⟩, ⟨HB5.out.grown HG5.out HB5.out.size (fun k e => by cases e; omega)⟩⟩
            · unfold conC
              by_cases h : x = s.f0
              · subst h
                rw [upd_same]; simp
              · rw [upd_other _ _ (by simpa using h), HF2.out, if_neg h]
            · exact (HG5.out.block _ (blk_lt (blk_alloc BK6.out _)) (by simp <;> omega)).trans (blk_alloc BK6.out _)
            · exact (HG5.out.block _ (blk_lt (blk_alloc BK7.out _)) (by simp <;> omega)).trans (blk_alloc BK7.out _)
          case measure => simp [intOf]; omega
        · obtain rfl : j = cs.length := by omega
          have hC : C = consTo cs (fun _ => none) := by have := HG.out; rw [List.drop_length] at this; exact this
          have HC2 := Aside0.mk (show ConM wr (w.heap.size + 1 + 1) cs.length (consTo cs (fun _ => none)) from hC ▸ HC.out)
          clear hC HG HC
          obtain ⟨k0, k1, k2⟩ : wr.cell? ⟨w.heap.size + 1 + 1 + 1, 0, none⟩ = some (.slice A0 l.length c0) ∧ wr.cell? ⟨w.heap.size + 1 + 1 + 1, 1, none⟩ = some (.map (some (w.heap.size + 1))) ∧ wr.cell? ⟨w.heap.size + 1 + 1 + 1, 2, none⟩ = some (.map (some (w.heap.size + 1 + 1))) := ⟨(blk_cell BK7.out 0).trans rfl, (blk_cell BK7.out 1).trans rfl, (blk_cell BK7.out 2).trans rfl⟩
          obtain ⟨m0, m1, m2⟩ : wr.cell? ⟨w.heap.size, 0, none⟩ = some (.slice none 0 0) ∧ wr.cell? ⟨w.heap.size, 1, none⟩ = some (.map none) ∧ wr.cell? ⟨w.heap.size, 2, none⟩ = some (.map none) := ⟨(blk_cell BK6.out 0).trans rfl, (blk_cell BK6.out 1).trans rfl, (blk_cell BK6.out 2).trans rfl⟩
          obtain ⟨f0, f1, f2⟩ : wr.frozen? ⟨w.heap.size, 0, none⟩ = false ∧ wr.frozen? ⟨w.heap.size, 1, none⟩ = false ∧ wr.frozen? ⟨w.heap.size, 2, none⟩ = false := ⟨blk_frozen BK6.out 0, blk_frozen BK6.out 1, blk_frozen BK6.out 2⟩
          go_wp2
          refine bodyPost_ret (results_cell_row rfl _ _ w.heap.size 73 #[.slice A0 l.length c0, .map (some (w.heap.size + 1)), .map (some (w.heap.size + 1 + 1))] (0, 0) _ rfl (blk_put (blk_put (blk_put BK6.out 0 _ rfl) 1 _ rfl) 2 _ rfl) Tryz.underlying73 rfl (by kernel_rfl)) rfl ?_
          refine ⟨w.heap.size + 1, w.heap.size + 1 + 1, rfl, ?_, ?_, ((HB.out.setCell (p := ⟨_, _, _⟩) (Nat.le_refl _) _).setCell (p := ⟨_, _, _⟩) (Nat.le_refl _) _).setCell (p := ⟨_, _, _⟩) (Nat.le_refl _) _⟩
          · exact (((HS.out.setCell (by simp) _).setCell (by simp) _).setCell (by simp) _).mono hl
          · exact (((HC2.out.setCell (by simp <;> omega) _).setCell (by simp <;> omega) _).setCell (by simp <;> omega) _).mono hc
end Go.Proofs.YtkfejgdeknemaaaGreatDoor.Fw
end
section
namespace Go.Proofs.YtkfejgdeknemaaaGreatDoor.Fw
open Go.RowKit Go.Proofs.YtkfejgdeknemaaaGreatDoorW.PrintWords Go.Proofs.YtkfejgdeknemaaaGreatDoorW.PrintLast Go.Proofs.YtkfejgdeknemaaaGreatDoorW.PrintMore Go.Proofs.GMap Go.Maps
set_option linter.unusedVariables false
def cnt (G : Int → Int → Option Int) (C : Int → Option Int) (n : Int) : Option Int := match G n 1 with
  | some i => some i
  | none => G n ((C n).getD 0)
theorem zero3 (w : World) : (zeroValue 3).run Tryz.prog w = .ok (.int .i64 0) w := Tryz.zeroValue3 w
theorem in64_one : In64 1 := ⟨by decide, by decide⟩
theorem in64_zero : In64 0 := ⟨by decide, by decide⟩
set_option maxHeartbeats 1000000 in
set_option maxRecDepth 100000 in
theorem counts_calls (A0 : Option Addr) (m c0 b1 b2 n1 n2 : Nat) (G : Int → Int → Option Int) (C : Int → Option Int) (n : Int) (w : World) (h1 : SetM w b1 n1 G) (h2 : ConM w b2 n2 C) (hn : In64 n) (hc : In64 ((C n).getD 0)) :
    Calls Tryz.prog 50 #[.agg #[.slice A0 m c0, .map (some b1), .map (some b2)], .int .i64 n] w fun e w' => e = .returned (.tuple #[.int .i64 ((cnt G C n).getD 0), .bool (cnt G C n).isSome]) ∧ Below w.heap.size w w' := by
  obtain ⟨F1, hM1, hF1⟩ := h1
  obtain ⟨F2, hM2, hF2⟩ := h2
  obtain ⟨kl1, hk1⟩ := key94 hn in64_one
  obtain ⟨kl2, hk2⟩ := key94 hn hc
  have hk3 := key3 hn
  have HM1 := Aside0.mk (hM1.alloc (.cells #[.slice A0 m c0, .map (some b1), .map (some b2)] 73))
  have HM2 := Aside0.mk (hM2.alloc (.cells #[.slice A0 m c0, .map (some b1), .map (some b2)] 73))
  have HK1 := Aside0.mk hk1
  have HK2 := Aside0.mk hk2
  have HK3 := Aside0.mk hk3
  have HFc := Aside0.mk (hF2 n)
  clear hM1 hM2 hk1 hk2 hk3 hF2
  cases hg : G n 1 with
  | some i =>
    have HF := Aside0.mk (show F1 (K n 1) = some (.int .i64 i) by rw [hF1, hg]; rfl)
    have HV := Aside0.mk (show cnt G C n = some i by simp [cnt, hg])
    clear hg hF1
    go_enter Tryz.func50, Tryz.ntmps50
    go_wp2_with (first | (at_lookup; refine wpList_look_ok _ rfl _ _ 70 rfl 94 3 keyed94 Tryz.underlying70 (zero3 _) b1 n1 F1 rfl HM1.out (K n 1) _ rfl HK1.out ?_; rw [HF.out]; simp only [Option.getD_some, Option.isSome_some]))
    go_ret2
    exact ⟨by rw [HV.out]; rfl, below_alloc (Below.refl _ _) _⟩
  | none =>
    have HF := Aside0.mk (show F1 (K n 1) = none by rw [hF1, hg]; rfl)
    have HG := Aside0.mk (show F1 (K n ((C n).getD 0)) = (cnt G C n).map (Value.int .i64) by rw [hF1]; simp [cnt, hg])
    clear hg hF1
    generalize cnt G C n = r at *
    have HD := Aside0.mk (show (F2 (.int .i64 n)).getD (.int .i64 0) = .int .i64 ((C n).getD 0) by rw [HFc.out]; cases C n <;> rfl)
    generalize (C n).getD 0 = cn at *
    clear HFc
    cases r with
    | none =>
      go_enter Tryz.func50, Tryz.ntmps50
      go_wp2_with (first | (at_lookup; refine wpList_look_ok _ rfl _ _ 70 rfl 94 3 keyed94 Tryz.underlying70 (zero3 _) b1 n1 F1 rfl HM1.out (K n 1) _ rfl HK1.out ?_; rw [HF.out]; simp only [Option.getD_none, Option.isSome_none]) | (at_lookup; refine wpList_look _ rfl _ _ 71 rfl 3 3 keyed3 Tryz.underlying71 (zero3 _) b2 n2 F2 rfl HM2.out (.int .i64 n) _ rfl HK3.out ?_; rw [HD.out]) | (at_lookup; refine wpList_look_ok _ rfl _ _ 70 rfl 94 3 keyed94 Tryz.underlying70 (zero3 _) b1 n1 F1 rfl HM1.out (K n cn) _ rfl HK2.out ?_; rw [HG.out]; simp only [Option.map_none, Option.getD_none, Option.isSome_none]))
      go_ret2
      exact ⟨rfl, below_alloc (Below.refl _ _) _⟩
    | some i =>
      go_enter Tryz.func50, Tryz.ntmps50
      go_wp2_with (first | (at_lookup; refine wpList_look_ok _ rfl _ _ 70 rfl 94 3 keyed94 Tryz.underlying70 (zero3 _) b1 n1 F1 rfl HM1.out (K n 1) _ rfl HK1.out ?_; rw [HF.out]; simp only [Option.getD_none, Option.isSome_none]) | (at_lookup; refine wpList_look _ rfl _ _ 71 rfl 3 3 keyed3 Tryz.underlying71 (zero3 _) b2 n2 F2 rfl HM2.out (.int .i64 n) _ rfl HK3.out ?_; rw [HD.out]) | (at_lookup; refine wpList_look_ok _ rfl _ _ 70 rfl 94 3 keyed94 Tryz.underlying70 (zero3 _) b1 n1 F1 rfl HM1.out (K n cn) _ rfl HK2.out ?_; rw [HG.out]; simp only [Option.map_some, Option.getD_some, Option.isSome_some]))
      go_ret2
      exact ⟨rfl, below_alloc (Below.refl _ _) _⟩
end Go.Proofs.YtkfejgdeknemaaaGreatDoor.Fw
end
section
namespace Go.Proofs.YtkfejgdeknemaaaGreatDoor.Fw
open Go.RowKit Go.Proofs.YtkfejgdeknemaaaGreatDoorW.PrintWords Go.Proofs.YtkfejgdeknemaaaGreatDoorW.PrintLast Go.Proofs.YtkfejgdeknemaaaGreatDoorW.PrintMore
set_option linter.unusedVariables false
abbrev V41 (s : S41) : Array Value := #[.int .i64 s.f0, .int .i64 s.f1, .int .i64 s.f2, .int .i64 s.f3.f0, .int .i64 s.f3.f1]
def clash (r s : S41) : Bool := r.f0 == s.f0 && (r.f1 == s.f1 && (hasAt r s.f3.f0 || hasAt s r.f3.f0))
set_option maxHeartbeats 1000000 in
set_option maxRecDepth 100000 in
theorem clash_calls (r s : S41) (bs : Nat) (w : World) (hb : w.heap[bs]? = some (.cells (V41 s) 41 (0, 0))) :
    Calls Tryz.prog 52 #[.agg (V41 r), .pointer (some ⟨bs, 0, none⟩)] w fun e w' => e = .returned (.bool (clash r s)) ∧ Below w.heap.size w w' := by
  have hlt := blk_lt hb
  have BK := Aside0.mk (blk_alloc hb (.cells (V41 r) 41))
  clear hb
  have k0 : (w.alloc (.cells (V41 r) 41)).cell? ⟨bs, 0, none⟩ = some (.int .i64 s.f0) := (blk_cell BK.out 0).trans rfl
  have k1 : (w.alloc (.cells (V41 r) 41)).cell? ⟨bs, 1, none⟩ = some (.int .i64 s.f1) := (blk_cell BK.out 1).trans rfl
  have k3 : (w.alloc (.cells (V41 r) 41)).cell? ⟨bs, 3, none⟩ = some (.int .i64 s.f3.f0) := (blk_cell BK.out 3).trans rfl
  have k4 : (w.alloc (.cells (V41 r) 41)).cell? ⟨bs, 4, none⟩ = some (.int .i64 s.f3.f1) := (blk_cell BK.out 4).trans rfl
  by_cases c1 : r.f0 = s.f0
  case neg =>
    have HV := Aside0.mk (show clash r s = false by simp [clash, c1])
    have b1 : (r.f0 == s.f0) = false := by simpa using c1
    clear c1
    go_enter Tryz.func52, Tryz.ntmps52
    go_wp2
    go_ret
    exact ⟨by rw [HV.out]; rfl, below_alloc (Below.refl _ _) _⟩
  have b1 : (r.f0 == s.f0) = true := by simpa using c1
  by_cases c2 : r.f1 = s.f1
  case neg =>
    have HV := Aside0.mk (show clash r s = false by simp [clash, c2])
    have b2 : (r.f1 == s.f1) = false := by simpa using c2
    clear c1 c2
    go_enter Tryz.func52, Tryz.ntmps52
    go_wp2
    go_ret
    exact ⟨by rw [HV.out]; rfl, below_alloc (Below.refl _ _) _⟩
  have b2 : (r.f1 == s.f1) = true := by simpa using c2
  have HV0 := Aside0.mk (show clash r s = (hasAt r s.f3.f0 || hasAt s r.f3.f0) by simp [clash, c1, c2])
  clear c1 c2
  obtain ⟨u, hu⟩ : ∃ u, hasAt r s.f3.f0 = u := ⟨_, rfl⟩
  obtain ⟨v, hv⟩ : ∃ v, hasAt s r.f3.f0 = v := ⟨_, rfl⟩
  have HU := Aside0.mk (show forward_has.f r.f3.f0 r.f3.f1 s.f3.f0 = some u by rw [← hu]; exact has_f r _)
  have HW := Aside0.mk (show forward_has.f s.f3.f0 s.f3.f1 r.f3.f0 = some v by rw [← hv]; exact has_f s _)
  have HV := Aside0.mk (show clash r s = (u || v) by rw [HV0.out, hu, hv])
  have HB0 := Aside0.mk (below_alloc (Below.refl w.heap.size w) (.cells (V41 r) 41))
  clear hu hv HV0
  cases u with
  | true =>
    go_enter Tryz.func52, Tryz.ntmps52
    go_wp2_with (first | (go_at_call 41; refine (forward_has.calls _ _ _ _ _ HU.out).mono ?_; rintro e w2 ⟨rfl, hb2⟩; have HB2 := Aside0.mk hb2; clear hb2))
    go_ret
    exact ⟨by rw [HV.out]; rfl, below_step HB0.out HB2.out⟩
  | false =>
    cases v with
    | true =>
      go_enter Tryz.func52, Tryz.ntmps52
      go_wp2_with fail
      refine (forward_has.calls _ _ _ _ _ HU.out).mono ?_
      rintro e w2 ⟨rfl, hb2⟩
      have HB2 := Aside0.mk hb2
      replace k3 := pw_cell_below hb2 k3
      replace k4 := pw_cell_below hb2 k4
      have k5 : w2.cell? ⟨w.heap.size, 3, none⟩ = some (.int .i64 r.f3.f0) := (blk_cell (blk_below (blk_new w _) hb2) 3).trans rfl
      clear hb2 k0 k1
      go_wp2_with fail
      refine (forward_has.calls _ _ _ _ _ HW.out).mono ?_
      rintro e w3 ⟨rfl, hb3⟩
      have HB3 := Aside0.mk hb3
      clear hb3 k3 k4 k5
      go_wp2
      go_ret
      exact ⟨by rw [HV.out]; rfl, below_step (below_step HB0.out HB2.out) HB3.out⟩
    | false =>
      go_enter Tryz.func52, Tryz.ntmps52
      go_wp2_with fail
      refine (forward_has.calls _ _ _ _ _ HU.out).mono ?_
      rintro e w2 ⟨rfl, hb2⟩
      have HB2 := Aside0.mk hb2
      replace k3 := pw_cell_below hb2 k3
      replace k4 := pw_cell_below hb2 k4
      have k5 : w2.cell? ⟨w.heap.size, 3, none⟩ = some (.int .i64 r.f3.f0) := (blk_cell (blk_below (blk_new w _) hb2) 3).trans rfl
      clear hb2 k0 k1
      go_wp2_with fail
      refine (forward_has.calls _ _ _ _ _ HW.out).mono ?_
      rintro e w3 ⟨rfl, hb3⟩
      have HB3 := Aside0.mk hb3
      clear hb3 k3 k4 k5
      go_wp2
      go_ret
      exact ⟨by rw [HV.out]; rfl, below_step (below_step HB0.out HB2.out) HB3.out⟩
def idxF (p : S41 → Bool) : List S41 → Nat → Int
  | [], _ => -1
  | x :: xs, i => if p x = true then (i : Int) else idxF p xs (i + 1)
theorem idxF_ge (p : S41 → Bool) : ∀ (l : List S41) (i : Nat), decide (idxF p l i ≥ 0) = l.any p
  | [], i => by simp [idxF]
  | x :: xs, i => by
    unfold idxF
    by_cases h : p x = true
    · simp [h]
    · rw [if_neg h, idxF_ge p xs (i + 1)]; simp [h]
set_option maxHeartbeats 1000000 in
set_option maxRecDepth 100000 in
theorem index_calls (s : S41) (bs : Nat) (A0 : Option Addr) (c0 : Nat) (l : List S41) (w : World) (hr0 : Kd.C k41 w A0 l.length l) (hl : l.length ≤ 1000) (hb : w.heap[bs]? = some (.cells (V41 s) 41 (0, 0))) :
    Calls Tryz.prog 68 #[.slice A0 l.length c0, .func (.func 52) #[] #[.pointer (some ⟨bs, 0, none⟩)]] w fun e w' => e = .returned (.int .i64 (idxF (fun r => clash r s) l 0)) ∧ Below w.heap.size w w' := by
  have HR0 := Aside0.mk hr0
  have BK := Aside0.mk hb
  clear hr0 hb
  go_enter Tryz.func68, Tryz.ntmps68
  go_wp2
  go_loopw [8] (fun v wr => ∃ i : Nat, i ≤ l.length ∧ v = .int .i64 i ∧ Aside0 (idxF (fun r => clash r s) (l.drop i) i = idxF (fun r => clash r s) l 0) ∧ Aside0 (Below w.heap.size w wr)) (fun v _ => l.length - (intOf v).toNat)
  case atStart => exact ⟨0, Nat.zero_le _, rfl, ⟨rfl⟩, ⟨Below.refl _ _⟩⟩
  case round =>
    obtain ⟨i, hi, rfl, HG, HB⟩ := hrel
    by_cases hlt : i < l.length
    · obtain ⟨ad, hA, h0, h1, h2, h3, h4⟩ := at_T41 HR0.out (i : Int) (by omega) (by omega)
      subst hA
      rw [Int.toNat_natCast] at h0 h1 h2 h3 h4
      replace h0 := pw_cell_below HB.out h0
      replace h1 := pw_cell_below HB.out h1
      replace h2 := pw_cell_below HB.out h2
      replace h3 := pw_cell_below HB.out h3
      replace h4 := pw_cell_below HB.out h4
      have hdrop : l.drop i = rd_T41 l i :: l.drop (i + 1) := by
        rw [List.drop_eq_getElem_cons hlt]; simp [rd_T41, hlt]
      have HG2 := HG.out
      rw [hdrop] at HG2
      simp only [idxF] at HG2
      clear hdrop HG
      generalize rd_T41 l i = r at *
      have HC := fun W (hB : Below w.heap.size w W) => clash_calls r s bs W (blk_below BK.out hB)
      have HCC := Aside0.mk HC
      clear HC
      cases hcl : clash r s with
      | true =>
        rw [if_pos hcl] at HG2
        have HG3 := Aside0.mk HG2
        have HCL := Aside0.mk hcl
        clear HG2 hcl
        go_wp2_with (first | (go_at_call 52; refine (HCC.out _ HB.out).mono ?_; rw [HCL.out]; rintro e w2 ⟨rfl, hb2⟩; have HB2 := Aside0.mk (below_step HB.out hb2); clear hb2))
        go_ret
        exact ⟨by rw [← HG3.out]; rfl, HB2.out⟩
      | false =>
        rw [if_neg (by rw [hcl]; simp)] at HG2
        have HG3 := Aside0.mk HG2
        have HCL := Aside0.mk hcl
        clear HG2 hcl
        go_wp2_with (first | (go_at_call 52; refine (HCC.out _ HB.out).mono ?_; rw [HCL.out]; rintro e w2 ⟨rfl, hb2⟩; have HB2 := Aside0.mk (below_step HB.out hb2); clear hb2))
        go_roundw
        case rel => exact ⟨i + 1, by omega, by go_num, HG3, HB2⟩
        case measure => simp [intOf]; omega
    · obtain rfl : i = l.length := by omega
      have HG2 := HG.out
      rw [List.drop_length] at HG2
      have HG3 := Aside0.mk HG2
      clear HG HG2
      go_wp2
      go_ret
      exact ⟨by rw [← HG3.out]; rfl, HB.out⟩
set_option maxHeartbeats 1000000 in
set_option maxRecDepth 100000 in
theorem contains_calls (s : S41) (bs : Nat) (A0 : Option Addr) (c0 : Nat) (l : List S41) (w : World) (hr0 : Kd.C k41 w A0 l.length l) (hl : l.length ≤ 1000) (hb : w.heap[bs]? = some (.cells (V41 s) 41 (0, 0))) :
    Calls Tryz.prog 53 #[.slice A0 l.length c0, .func (.func 52) #[] #[.pointer (some ⟨bs, 0, none⟩)]] w fun e w' => e = .returned (.bool (l.any fun r => clash r s)) ∧ Below w.heap.size w w' := by
  have HC := Aside0.mk (index_calls s bs A0 c0 l w hr0 hl hb)
  have HV := Aside0.mk (idxF_ge (fun r => clash r s) l 0)
  clear hr0 hb
  generalize idxF (fun r => clash r s) l 0 = x at *
  generalize (l.any fun r => clash r s) = v at *
  cases v with
  | true =>
    have hx : 0 ≤ x := by simpa using HV.out
    have hx2 : decide (x ≥ 0) = true := HV.out
    go_enter Tryz.func53, Tryz.ntmps53
    go_wp2_with (first | (go_at_call 68; refine HC.out.mono ?_; rintro e w2 ⟨rfl, hb2⟩; have HB2 := Aside0.mk hb2; clear hb2))
    go_ret
    exact ⟨rfl, HB2.out⟩
  | false =>
    have hx : ¬ 0 ≤ x := by simpa using HV.out
    have hx2 : decide (x ≥ 0) = false := HV.out
    go_enter Tryz.func53, Tryz.ntmps53
    go_wp2_with (first | (go_at_call 68; refine HC.out.mono ?_; rintro e w2 ⟨rfl, hb2⟩; have HB2 := Aside0.mk hb2; clear hb2))
    go_ret
    exact ⟨rfl, HB2.out⟩
end Go.Proofs.YtkfejgdeknemaaaGreatDoor.Fw
end
section
namespace Go.Proofs.YtkfejgdeknemaaaGreatDoor.Fw
open Go.RowKit Go.Proofs.YtkfejgdeknemaaaGreatDoorW.PrintWords Go.Proofs.YtkfejgdeknemaaaGreatDoorW.PrintLast Go.Proofs.YtkfejgdeknemaaaGreatDoorW.PrintMore
set_option linter.unusedVariables false
def inB (n a b : Int) : Bool := decide (a ≤ n) && decide (n ≤ b)
def formed (s : S41) : Bool := inB s.f0 0 99999999 && (inB s.f2 0 99999999 && (!decide (s.f0 = s.f2) && (inB s.f1 1 4 && (decide (0 ≤ s.f3.f0) && (decide (s.f3.f0 < s.f3.f1) && decide (s.f3.f1 ≤ 10000001))))))
theorem isIn_f (n a b : Int) : forward_isIn.f n a b = some (inB n a b) := by
  unfold forward_isIn.f inB
  by_cases h : a ≤ n <;> simp [h]
theorem formed_f (s : S41) : forward_isFormed.f s.f0 s.f1 s.f2 s.f3.f0 s.f3.f1 = some (formed s) := by
  unfold forward_isFormed.f forward_isNumber.f formed
  simp only [isIn_f, Option.bind_some]
  cases inB s.f0 0 99999999 <;> cases inB s.f2 0 99999999 <;> cases inB s.f1 1 4 <;> by_cases h1 : s.f0 = s.f2 <;> by_cases h2 : 0 ≤ s.f3.f0 <;> by_cases h3 : s.f3.f0 < s.f3.f1 <;> simp [h1, h2, h3]
def areGo : List S41 → List S41 → Bool
  | _, [] => true
  | pre, s :: ss => formed s && (!(pre.any fun r => clash r s) && areGo (pre ++ [s]) ss)
def areS (l : List S41) : Bool := decide (l.length ≤ 40) && areGo [] l
def forward_areSettings.f (l : List S41) : Option Bool := some (areS l)
set_option maxHeartbeats 1000000 in
set_option maxRecDepth 100000 in
theorem forward_areSettings.calls (A0 : Option Addr) (c0 : Nat) (l0 : List S41) (r : Bool) (w : World) (hr0 : Kd.C k41 w A0 l0.length l0) (hc0 : l0.length ≤ c0) (h : forward_areSettings.f l0 = some r) :
    Calls Tryz.prog 35 #[.slice A0 l0.length c0] w fun e w' => e = .returned (.bool r) ∧ Below w.heap.size w w' := by
  have HR0 := Aside0.mk hr0
  have HV := Aside0.mk (Option.some.inj h)
  clear hr0 h
  by_cases hlen : l0.length ≤ 40
  case neg =>
    have HV2 := Aside0.mk (show r = false by rw [← HV.out]; simp [areS, hlen])
    have h40 : (40 : Int) < l0.length := by omega
    clear HV
    go_enter Tryz.func35, Tryz.ntmps35
    go_wp2
    go_ret
    exact ⟨by rw [HV2.out]; rfl, Below.refl _ _⟩
  have HV2 := Aside0.mk (show r = areGo [] l0 by rw [← HV.out]; simp [areS, hlen])
  have h40 : ¬ (40 : Int) < l0.length := by omega
  clear HV
  go_enter Tryz.func35, Tryz.ntmps35
  go_wp2
  go_loopw [11] (fun v wr => ∃ i : Nat, i ≤ l0.length ∧ v = .int .i64 i ∧ Aside0 (areGo (l0.take i) (l0.drop i) = r) ∧ Aside0 (Below w.heap.size w wr)) (fun v _ => l0.length - (intOf v).toNat)
  case atStart => exact ⟨0, Nat.zero_le _, rfl, ⟨by rw [HV2.out]; rfl⟩, ⟨Below.refl _ _⟩⟩
  case round =>
    clear HV2
    obtain ⟨i, hi, rfl, HG, HB⟩ := hrel
    by_cases hlt : i < l0.length
    · obtain ⟨ad, hA, h0, h1, h2, h3, h4⟩ := at_T41 HR0.out (i : Int) (by omega) (by omega)
      subst hA
      rw [Int.toNat_natCast] at h0 h1 h2 h3 h4
      replace h0 := pw_cell_below HB.out h0
      replace h1 := pw_cell_below HB.out h1
      replace h2 := pw_cell_below HB.out h2
      replace h3 := pw_cell_below HB.out h3
      replace h4 := pw_cell_below HB.out h4
      have hdrop : l0.drop i = rd_T41 l0 i :: l0.drop (i + 1) := by
        rw [List.drop_eq_getElem_cons hlt]; simp [rd_T41, hlt]
      have htake : l0.take (i + 1) = l0.take i ++ [rd_T41 l0 i] := by
        rw [List.take_succ_eq_append_getElem hlt]; simp [rd_T41, hlt]
      have HG2 := HG.out
      rw [hdrop] at HG2
      simp only [areGo] at HG2
      rw [← htake] at HG2
      have HC : ∀ (s : S41) (W : World) (bs : Nat), Below w.heap.size w W → W.heap[bs]? = some (.cells (V41 s) 41 (0, 0)) → Calls Tryz.prog 53 #[.slice (some ad) i c0, .func (.func 52) #[] #[.pointer (some ⟨bs, 0, none⟩)]] W fun e w' => e = .returned (.bool ((l0.take i).any fun r => clash r s)) ∧ Below W.heap.size W w' := fun s W bs hB hb => by
        have h := contains_calls s bs (some ad) c0 (l0.take i) W (Kd.C_take (Kd.C_below HR0.out hB) (by omega)) (by rw [List.length_take]; omega) hb
        rwa [show (l0.take i).length = i by rw [List.length_take]; omega] at h
      have HCC := Aside0.mk HC
      clear hdrop htake HG HC
      generalize rd_T41 l0 i = s at *
      obtain ⟨b, hb⟩ : ∃ b, formed s = b := ⟨_, rfl⟩
      have HF := Aside0.mk (show forward_isFormed.f s.f0 s.f1 s.f2 s.f3.f0 s.f3.f1 = some b by rw [formed_f, hb])
      obtain ⟨u, hu⟩ : ∃ u, ((l0.take i).any fun r => clash r s) = u := ⟨_, rfl⟩
      have HU := Aside0.mk hu
      rw [hb, hu] at HG2
      clear hb hu
      have hic : i ≤ c0 := by omega
      cases b with
      | false =>
        have HG3 := Aside0.mk (show r = false by rw [← HG2]; rfl)
        clear HG2
        go_wp2_with (first | (go_at_call 44; refine (forward_isFormed.calls _ _ _ _ _ _ _ HF.out).mono ?_; rintro e w2 ⟨rfl, hb2⟩; have HB2 := Aside0.mk hb2; clear hb2))
        go_ret
        exact ⟨by rw [HG3.out]; rfl, below_step (below_alloc HB.out _) HB2.out⟩
      | true =>
        cases u with
        | true =>
          have HG3 := Aside0.mk (show r = false by rw [← HG2]; rfl)
          clear HG2
          go_wp2_with (first | (go_at_call 44; refine (forward_isFormed.calls _ _ _ _ _ _ _ HF.out).mono ?_; rintro e w2 ⟨rfl, hb2⟩; have HB2 := Aside0.mk hb2; clear hb2) | (go_at_call 53; refine (HCC.out s _ _ (below_step (below_alloc HB.out _) HB2.out) (blk_below (blk_new _ _) HB2.out)).mono ?_; rw [HU.out]; rintro e w3 ⟨rfl, hb3⟩; have HB3 := Aside0.mk hb3; clear hb3))
          go_ret
          exact ⟨by rw [HG3.out]; rfl, below_step (below_step (below_alloc HB.out _) HB2.out) HB3.out⟩
        | false =>
          have HG3 := Aside0.mk (show areGo (l0.take (i + 1)) (l0.drop (i + 1)) = r by rw [← HG2]; rfl)
          clear HG2
          go_wp2_with (first | (go_at_call 44; refine (forward_isFormed.calls _ _ _ _ _ _ _ HF.out).mono ?_; rintro e w2 ⟨rfl, hb2⟩; have HB2 := Aside0.mk hb2; clear hb2) | (go_at_call 53; refine (HCC.out s _ _ (below_step (below_alloc HB.out _) HB2.out) (blk_below (blk_new _ _) HB2.out)).mono ?_; rw [HU.out]; rintro e w3 ⟨rfl, hb3⟩; have HB3 := Aside0.mk hb3; clear hb3))
          go_roundw
          case rel => exact ⟨i + 1, by omega, by go_num, HG3, ⟨below_step (below_step (below_alloc HB.out _) HB2.out) HB3.out⟩⟩
          case measure => simp [intOf]; omega
    · obtain rfl : i = l0.length := by omega
      have HG2 := HG.out
      rw [List.drop_length] at HG2
      have HG3 := Aside0.mk (show r = true by rw [← HG2]; rfl)
      clear HG HG2
      go_wp2
      go_ret
      exact ⟨by rw [HG3.out]; rfl, HB.out⟩
end Go.Proofs.YtkfejgdeknemaaaGreatDoor.Fw
end
section
namespace Go.Proofs.YtkfejgdeknemaaaGreatDoor.Fw
open Go.RowKit Go.Proofs.YtkfejgdeknemaaaGreatDoorW.PrintWords Go.Proofs.YtkfejgdeknemaaaGreatDoorW.PrintLast Go.Proofs.YtkfejgdeknemaaaGreatDoorW.PrintMore
set_option linter.unusedVariables false
def badC (last : Int) (x : S37) : Bool := decide (x.f0 ≤ last) || (!inB x.f0 0 99999999 || !inB x.f1 2 4)
theorem isNumber_f (n : Int) : forward_isNumber.f n = some (inB n 0 99999999) := by
  unfold forward_isNumber.f
  rw [isIn_f]; rfl
theorem grown_set (w : World) (o : Obj) (b : Nat) (v : Value) (w' : World) (hb : Below ((w.setCell ⟨b, 0, none⟩ v).alloc o).heap.size ((w.setCell ⟨b, 0, none⟩ v).alloc o) w') : w.grownBy w' (some b) := by
  have h1 : ∀ k, k ≠ b → (w.setCell ⟨b, 0, none⟩ v).heap[k]? = w.heap[k]? := fun k hk => Below.heap_setCell _ _ _ k hk
  have h2 : ((w.setCell ⟨b, 0, none⟩ v).alloc o).heap.size = w.heap.size + 1 := by simp
  refine ⟨hb.os, hb.tape, hb.output, by have := hb.size; omega, fun k hk hne => ?_⟩
  rw [hb.block k (by omega)]
  exact (Below.heap_alloc (w.setCell ⟨b, 0, none⟩ v) o k (by simpa using hk)).trans (h1 k (fun e => hne (by rw [e])))
set_option maxHeartbeats 1000000 in
set_option maxRecDepth 100000 in
theorem bad_calls (x : S37) (last : Int) (b : Nat) (w : World) (hb : w.heap[b]? = some (.cells #[.int .i64 last] 3 (0, 0))) :
    Calls Tryz.prog 45 #[.agg #[.int .i64 x.f0, .int .i64 x.f1], .pointer (some ⟨b, 0, none⟩)] w fun e w' => e = .returned (.bool (badC last x)) ∧ w'.heap[b]? = some (.cells #[.int .i64 x.f0] 3 (0, 0)) ∧ w.grownBy w' (some b) := by
  have hlt := blk_lt hb
  have BK0 := Aside0.mk (blk_alloc hb (.cells #[.int .i64 x.f0, .int .i64 x.f1] 37))
  have k0 : (w.alloc (.cells #[.int .i64 x.f0, .int .i64 x.f1] 37)).cell? ⟨b, 0, none⟩ = some (.int .i64 last) := (blk_cell BK0.out 0).trans rfl
  have f0 : (w.alloc (.cells #[.int .i64 x.f0, .int .i64 x.f1] 37)).frozen? ⟨b, 0, none⟩ = false := blk_frozen BK0.out 0
  have BK := Aside0.mk (show ((w.setCell ⟨b, 0, none⟩ (.int .i64 x.f0)).alloc (.cells #[.int .i64 x.f0, .int .i64 x.f1] 37)).heap[b]? = some (.cells #[.int .i64 x.f0] 3 (0, 0)) from blk_alloc (blk_put hb 0 _ rfl) _)
  clear hb
  by_cases c1 : x.f0 ≤ last
  case pos =>
    have HV := Aside0.mk (show badC last x = true by simp [badC, c1])
    have b1 : decide (x.f0 ≤ last) = true := by simpa using c1
    clear c1
    go_enter Tryz.func45, Tryz.ntmps45
    go_wp2
    go_ret
    exact ⟨by rw [HV.out]; rfl, BK.out, grown_set _ _ _ _ _ (Below.refl _ _)⟩
  have b1 : decide (x.f0 ≤ last) = false := by simpa using c1
  obtain ⟨u, hu⟩ : ∃ u, inB x.f0 0 99999999 = u := ⟨_, rfl⟩
  have HU := Aside0.mk (show forward_isNumber.f x.f0 = some u by rw [isNumber_f, hu])
  cases u with
  | false =>
    have HV := Aside0.mk (show badC last x = true by simp [badC, hu])
    clear c1 hu
    go_enter Tryz.func45, Tryz.ntmps45
    go_wp2_with (first | (go_at_call 29; refine (forward_isNumber.calls _ _ _ HU.out).mono ?_; rintro e w' ⟨rfl, ⟨nd, rfl⟩⟩))
    go_ret
    exact ⟨by rw [HV.out]; rfl, blk_drewN BK.out _, grown_set _ _ _ _ _ (pw_below_drewN (Below.refl _ _) _)⟩
  | true =>
    obtain ⟨v, hv⟩ : ∃ v, inB x.f1 2 4 = v := ⟨_, rfl⟩
    have HW := Aside0.mk (show forward_isIn.f x.f1 2 4 = some v by rw [isIn_f, hv])
    have HV := Aside0.mk (show badC last x = !v by simp [badC, hu, hv, c1])
    clear c1 hu hv
    cases v <;>
    · go_enter Tryz.func45, Tryz.ntmps45
      go_wp2_with (first | (go_at_call 29; refine (forward_isNumber.calls _ _ _ HU.out).mono ?_; rintro e w' ⟨rfl, ⟨nd, rfl⟩⟩) | (go_at_call 30; refine (forward_isIn.calls _ _ _ _ _ HW.out).mono ?_; rintro e w' ⟨rfl, ⟨nd2, rfl⟩⟩))
      go_ret
      exact ⟨by rw [HV.out]; rfl, blk_drewN BK.out _, grown_set _ _ _ _ _ (pw_below_drewN (Below.refl _ _) _)⟩
def idxC : Int → List S37 → Nat → Int
  | _, [], _ => -1
  | last, x :: xs, i => if badC last x = true then (i : Int) else idxC x.f0 xs (i + 1)
def badAny : Int → List S37 → Bool
  | _, [] => false
  | last, x :: xs => badC last x || badAny x.f0 xs
theorem idxC_ge : ∀ (l : List S37) (last : Int) (i : Nat), decide (idxC last l i ≥ 0) = badAny last l
  | [], _, i => by simp [idxC, badAny]
  | x :: xs, last, i => by
    unfold idxC badAny
    by_cases h : badC last x = true
    · simp [h]
    · rw [if_neg h, idxC_ge xs x.f0 (i + 1)]; simp [h]
set_option maxHeartbeats 1000000 in
set_option maxRecDepth 100000 in
theorem indexC_calls (last : Int) (b : Nat) (A0 : Option Addr) (c0 : Nat) (l : List S37) (w0 w : World) (hr0 : Kd.C k37 w0 A0 l.length l) (hl : l.length ≤ 1000) (hB : Below w0.heap.size w0 w) (hge : w0.heap.size ≤ b) (hb : w.heap[b]? = some (.cells #[.int .i64 last] 3 (0, 0))) :
    Calls Tryz.prog 66 #[.slice A0 l.length c0, .func (.func 45) #[] #[.pointer (some ⟨b, 0, none⟩)]] w fun e w' => e = .returned (.int .i64 (idxC last l 0)) ∧ Below w0.heap.size w0 w' := by
  have HR0 := Aside0.mk hr0
  have BK := Aside0.mk hb
  have HB0 := Aside0.mk hB
  clear hr0 hb hB
  go_enter Tryz.func66, Tryz.ntmps66
  go_wp2
  go_loopw [8] (fun v wr => ∃ i : Nat, i ≤ l.length ∧ v = .int .i64 i ∧ ∃ la : Int, Aside0 (idxC la (l.drop i) i = idxC last l 0) ∧ Aside0 (wr.heap[b]? = some (.cells #[.int .i64 la] 3 (0, 0))) ∧ Aside0 (Below w0.heap.size w0 wr)) (fun v _ => l.length - (intOf v).toNat)
  case atStart => exact ⟨0, Nat.zero_le _, rfl, last, ⟨rfl⟩, BK, HB0⟩
  case round =>
    clear BK HB0
    obtain ⟨i, hi, rfl, la, HG, BK, HB⟩ := hrel
    by_cases hlt : i < l.length
    · obtain ⟨ad, hA, h0, h1⟩ := at_T37 HR0.out (i : Int) (by omega) (by omega)
      subst hA
      rw [Int.toNat_natCast] at h0 h1
      replace h0 := pw_cell_below HB.out h0
      replace h1 := pw_cell_below HB.out h1
      have hdrop : l.drop i = rd_T37 l i :: l.drop (i + 1) := by
        rw [List.drop_eq_getElem_cons hlt]; simp [rd_T37, hlt]
      have HG2 := HG.out
      rw [hdrop] at HG2
      simp only [idxC] at HG2
      clear hdrop HG
      generalize rd_T37 l i = x at *
      have HCC := Aside0.mk (bad_calls x la b wr BK.out)
      cases hcl : badC la x with
      | true =>
        rw [if_pos hcl] at HG2
        have HG3 := Aside0.mk HG2
        have HCL := Aside0.mk hcl
        clear HG2 hcl
        go_wp2_with (first | (go_at_call 45; refine HCC.out.mono ?_; rw [HCL.out]; rintro e w2 ⟨rfl, hb2, hg2⟩; have HB2 := Aside0.mk (HB.out.grown hg2 HB.out.size (fun k e => by cases e; exact hge)); clear hb2 hg2))
        go_ret
        exact ⟨by rw [← HG3.out]; rfl, HB2.out⟩
      | false =>
        rw [if_neg (by rw [hcl]; simp)] at HG2
        have HG3 := Aside0.mk HG2
        have HCL := Aside0.mk hcl
        clear HG2 hcl
        go_wp2_with (first | (go_at_call 45; refine HCC.out.mono ?_; rw [HCL.out]; rintro e w2 ⟨rfl, hb2, hg2⟩; have HB2 := Aside0.mk (HB.out.grown hg2 HB.out.size (fun k e => by cases e; exact hge)); have BK2 := Aside0.mk hb2; clear hb2 hg2))
        go_roundw
        case rel => exact ⟨i + 1, by omega, by go_num, x.f0, HG3, BK2, HB2⟩
        case measure => simp [intOf]; omega
    · obtain rfl : i = l.length := by omega
      have HG2 := HG.out
      rw [List.drop_length] at HG2
      have HG3 := Aside0.mk HG2
      clear HG HG2
      go_wp2
      go_ret
      exact ⟨by rw [← HG3.out]; rfl, HB.out⟩
set_option maxHeartbeats 1000000 in
set_option maxRecDepth 100000 in
theorem containsC_calls (last : Int) (b : Nat) (A0 : Option Addr) (c0 : Nat) (l : List S37) (w0 w : World) (hr0 : Kd.C k37 w0 A0 l.length l) (hl : l.length ≤ 1000) (hB : Below w0.heap.size w0 w) (hge : w0.heap.size ≤ b) (hb : w.heap[b]? = some (.cells #[.int .i64 last] 3 (0, 0))) :
    Calls Tryz.prog 46 #[.slice A0 l.length c0, .func (.func 45) #[] #[.pointer (some ⟨b, 0, none⟩)]] w fun e w' => e = .returned (.bool (badAny last l)) ∧ Below w0.heap.size w0 w' := by
  have HC := Aside0.mk (indexC_calls last b A0 c0 l w0 w hr0 hl hB hge hb)
  have HV := Aside0.mk (idxC_ge l last 0)
  clear hr0 hb hB
  generalize idxC last l 0 = x at *
  generalize badAny last l = v at *
  cases v with
  | true =>
    have hx : 0 ≤ x := by simpa using HV.out
    have hx2 : decide (x ≥ 0) = true := HV.out
    go_enter Tryz.func46, Tryz.ntmps46
    go_wp2_with (first | (go_at_call 66; refine HC.out.mono ?_; rintro e w2 ⟨rfl, hb2⟩; have HB2 := Aside0.mk hb2; clear hb2))
    go_ret
    exact ⟨rfl, HB2.out⟩
  | false =>
    have hx : ¬ 0 ≤ x := by simpa using HV.out
    have hx2 : decide (x ≥ 0) = false := HV.out
    go_enter Tryz.func46, Tryz.ntmps46
    go_wp2_with (first | (go_at_call 66; refine HC.out.mono ?_; rintro e w2 ⟨rfl, hb2⟩; have HB2 := Aside0.mk hb2; clear hb2))
    go_ret
    exact ⟨rfl, HB2.out⟩
def valS (l : List S41) (c : List S37) : Bool := areS l && (decide (c.length ≤ 40) && !badAny (-1) c)
def forward_Valid.f (l : List S41) (c : List S37) : Option Bool := some (valS l c)
set_option maxHeartbeats 1000000 in
set_option maxRecDepth 100000 in
theorem forward_Valid.calls (A0 : Option Addr) (c0 : Nat) (l0 : List S41) (A1 : Option Addr) (c1 : Nat) (l1 : List S37) (r : Bool) (w : World) (hr0 : Kd.C k41 w A0 l0.length l0) (hc0 : l0.length ≤ c0) (hr1 : Kd.C k37 w A1 l1.length l1) (hc1 : l1.length ≤ c1) (h : forward_Valid.f l0 l1 = some r) :
    Calls Tryz.prog 25 #[.slice A0 l0.length c0, .slice A1 l1.length c1] w fun e w' => e = .returned (.bool r) ∧ Below w.heap.size w w' := by
  have HR0 := Aside0.mk hr0
  have HR1 := Aside0.mk hr1
  obtain rfl : valS l0 l1 = r := Option.some.inj h
  clear hr0 hr1 h
  have HB0 := Aside0.mk (below_alloc (Below.refl w.heap.size w) (.cells #[.int .i64 (-1)] 3))
  obtain ⟨u, hu⟩ : ∃ u, areS l0 = u := ⟨_, rfl⟩
  have HA := Aside0.mk (forward_areSettings.calls A0 c0 l0 u (w.alloc (.cells #[.int .i64 (-1)] 3)) (Kd.C_alloc HR0.out _) hc0 (by rw [← hu]; rfl))
  cases u with
  | false =>
    have HV := Aside0.mk (show valS l0 l1 = false by simp [valS, hu])
    clear hu
    go_enter Tryz.func25, Tryz.ntmps25
    go_wp2_with (first | (go_at_call 35; refine HA.out.mono ?_; rintro e w2 ⟨rfl, hb2⟩; have HB2 := Aside0.mk (below_step HB0.out hb2); clear hb2))
    go_ret
    exact ⟨by rw [HV.out]; rfl, HB2.out⟩
  | true =>
    by_cases hlen : l1.length ≤ 40
    case neg =>
      have HV := Aside0.mk (show valS l0 l1 = false by simp [valS, hlen])
      have h40 : ¬ (l1.length : Int) ≤ 40 := by omega
      have h41 : decide ((l1.length : Int) ≤ 40) = false := decide_eq_false h40
      clear hu hlen
      go_enter Tryz.func25, Tryz.ntmps25
      go_wp2_with (first | (go_at_call 35; refine HA.out.mono ?_; rintro e w2 ⟨rfl, hb2⟩; have HB2 := Aside0.mk (below_step HB0.out hb2); clear hb2))
      go_ret
      exact ⟨by rw [HV.out]; rfl, HB2.out⟩
    have h40 : (l1.length : Int) ≤ 40 := by omega
    have h41 : decide ((l1.length : Int) ≤ 40) = true := decide_eq_true h40
    obtain ⟨v, hv⟩ : ∃ v, badAny (-1) l1 = v := ⟨_, rfl⟩
    have HV := Aside0.mk (show valS l0 l1 = !v by simp [valS, hu, hv, hlen])
    have HC := fun W (hB : Below w.heap.size w W) (hb : W.heap[w.heap.size]? = some (.cells #[.int .i64 (-1)] 3 (0, 0))) => containsC_calls (-1) w.heap.size A1 c1 l1 w W HR1.out (by omega) hB (Nat.le_refl _) hb
    rw [hv] at HC
    have HCC := Aside0.mk HC
    clear hu hlen hv HC
    cases v <;>
    · go_enter Tryz.func25, Tryz.ntmps25
      go_wp2_with (first | (go_at_call 35; refine HA.out.mono ?_; rintro e w2 ⟨rfl, hb2⟩; have HB2 := Aside0.mk (below_step HB0.out hb2); have BK2 := Aside0.mk (blk_below (blk_new w _) hb2); clear hb2) | (go_at_call 46; refine (HCC.out _ HB2.out BK2.out).mono ?_; rintro e w3 ⟨rfl, hb3⟩; have HB3 := Aside0.mk hb3; clear hb3))
      go_ret
      exact ⟨by rw [HV.out]; rfl, HB3.out⟩
end Go.Proofs.YtkfejgdeknemaaaGreatDoor.Fw
end
