/- Di: part 4 of the proof that the law's row holds: the printed walk of the program's functions, the plain law, the row. -/
import Derived.Test.YtlmfoblgheepoaaGreatDoorRows
import Derived.Test.YtlmfoblgheepoaaGreatDoorTie
import Derived.Test.YtlmfoblgheepoaaGreatDoorCards
import Derived.WalkKit
import Derived.ProofKit
import Derived.OpenShut
import Derived.ShutString
import Derived.ChangeOld
import Derived.Below
import Derived.SizedLaws
import Derived.Lay
import Derived.LaidOnce
import Derived.SevenTiedAt
import Derived.LaidByTextLater
import Derived.Lib.LaidTab
import Derived.Lib.LaidU8
import Derived.Stop.Joined
import Derived.Test.YtlmfoblgheepoaaGreatDoorQUq2
import Derived.Test.YtlmfoblgheepoaaGreatDoorQDi2
section
namespace Go.Proofs.YtlmfoblgheepoaaGreatDoor.Row
open Go.ChangeShapes Go.WideShapes Go.ChangeAt Go.RowKit Go.Proofs.GOpen Go.Proofs.YtlmfoblgheepoaaGreatDoor.Pl Go.Proofs.YtlmfoblgheepoaaGreatDoorW.PrintWords
open Go.ChangeMaps (open_string shut_string)
set_option maxRecDepth 100000
theorem own : ownKnob Tryz.prog.godebug = none := by kernel_rfl
theorem laidOut : laidOutB Tryz.prog = true := by kernel_rfl
theorem rngI64 {n : Int} (h : (Lit.int .i64 n).wf = true) : -9223372036854775808 ≤ n ∧ n ≤ 9223372036854775807 := by simpa [Lit.wf, IntKind.min, IntKind.max, IntKind.signed, IntKind.bits] using h
def I64 (n : Int) : Prop := -9223372036854775808 ≤ n ∧ n ≤ 9223372036854775807
theorem gPow : Tryz.prog.globalNamed "internal/strconv.uint64pow10" = some 4 := by kernel_rfl
theorem gPowType : (Tryz.prog.globals[4]?).map (·.type) = some 154 := by kernel_rfl
theorem powData : (Rows.laid_internal_strconv_uint64pow10 : DataW Unit) = Lib.tabData .u64 Lib.pow10Tab := by rfl
theorem glb_of_reads {W : World} (h : Lib.VarReads Tryz.prog W "internal/strconv.uint64pow10" Rows.laid_internal_strconv_uint64pow10) : Glb W := by
  rw [powData] at h
  obtain ⟨g, t, cs, fuel, p, h1, h2, h3, h4⟩ := h
  obtain rfl := Option.some.inj (gPow.symm.trans h1)
  obtain rfl := Option.some.inj (gPowType.symm.trans h2)
  unfold Glb Lib.TabIs
  rw [h3, ← Lib.cells_of_tab Tryz.underlying154 Tryz.underlying123 (by kernel_rfl) (by kernel_rfl) h4]
theorem read22 {H : Type} {enc : TypeId × Value → H} {W : World} {base : Nat} {spare : Nat → Bool} {held : Bool} {a : Option Addr} {len cap : Nat} {d : DataW H} {p : List MemPlace} (h : DataW.Trod enc Tryz.prog W base spare held 22 (.slice a len cap) d p) :
    ∃ l : List S23, l.length = len ∧ len ≤ cap ∧ len ≤ 9223372036854775807 ∧ Kd.C k23 W a l.length l ∧ ∀ x ∈ l, I64 x.f0 ∧ I64 x.f1 ∧ I64 x.f2 := by
  rcases open_slice_arrays Tryz.underlying22 Tryz.underlying23 Tryz.underlying3 (by kernel_rfl) (by kernel_rfl) h with ⟨rfl, rfl, rfl⟩ | ⟨ad, rfl, hl, hm, Z, hZ⟩
  · exact ⟨[], rfl, Nat.le_refl _, by omega, ⟨rfl, by simp, fun h0 => absurd h0 (by simp)⟩, fun x hx => by cases hx⟩
  · unfold maxLen at hm
    have hlen : ((List.range len).map fun i => (⟨Z i 0, Z i 1, Z i 2⟩ : S23)).length = len := by simp
    refine ⟨(List.range len).map fun i => (⟨Z i 0, Z i 1, Z i 2⟩ : S23), hlen, hl, by omega, ⟨rfl, by rw [hlen]; omega, fun _ => ⟨ad, rfl, fun j x hx => ?_⟩⟩, fun x hx => ?_⟩
    · have hj : j < len := by have := (List.getElem?_eq_some_iff.1 hx).1; simpa using this
      obtain rfl : (⟨Z j 0, Z j 1, Z j 2⟩ : S23) = x := by simpa [hj] using hx
      refine ⟨[.int .i64 (Z j 0), .int .i64 (Z j 1), .int .i64 (Z j 2)], rfl, k23_mk _ _, fun q u hu => ?_⟩
      have hq : q < 3 := by have := (List.getElem?_eq_some_iff.1 hu).1; simpa using this
      show W.cell? (ad.add (j * 3 + q)) = some u
      rw [(hZ j hj q hq).1]
      match q, hq, hu with
      | 0, _, hu => exact hu
      | 1, _, hu => exact hu
      | 2, _, hu => exact hu
    · obtain ⟨i, hi, rfl⟩ := List.mem_map.1 hx
      have hi2 : i < len := by simpa using hi
      exact ⟨rngI64 (hZ i hi2 0 (by omega)).2, rngI64 (hZ i hi2 1 (by omega)).2, rngI64 (hZ i hi2 2 (by omega)).2⟩
theorem read25 {H : Type} {enc : TypeId × Value → H} {W : World} {base : Nat} {spare : Nat → Bool} {held : Bool} {a : Option Addr} {len cap : Nat} {d : DataW H} {p : List MemPlace} (h : DataW.Trod enc Tryz.prog W base spare held 25 (.slice a len cap) d p) :
    ∃ l : List Int, l.length = len ∧ len ≤ cap ∧ len ≤ 9223372036854775807 ∧ Kd.C (Kd.int .i64) W a l.length l ∧ ∀ x ∈ l, I64 x := by
  obtain ⟨fuel, hf⟩ := h
  rcases open_ints Tryz.underlying25 Tryz.underlying3 (by kernel_rfl) hf with ⟨hcs, _⟩ | ⟨ad, l, c, zs, hcs, _, hl, hm, hzl, _, hcell, hwf⟩
  · simp [Value.cells] at hcs
    obtain ⟨rfl, rfl, rfl⟩ := hcs
    exact ⟨[], rfl, Nat.le_refl _, by omega, ⟨rfl, by simp, fun h0 => absurd h0 (by simp)⟩, fun x hx => by cases hx⟩
  · simp [Value.cells] at hcs
    obtain ⟨rfl, rfl, rfl⟩ := hcs
    unfold maxLen at hm
    have hz : len ≤ zs.length := by rw [hzl]; split <;> omega
    have hlen : (zs.take len).length = len := by rw [List.length_take]; omega
    refine ⟨zs.take len, hlen, hl, by omega, ⟨rfl, by rw [hlen]; omega, fun _ => ⟨ad, rfl, fun j x hx => ?_⟩⟩, fun x hx => rngI64 (hwf x (List.mem_of_mem_take hx))⟩
    have hj : j < len := by have := (List.getElem?_eq_some_iff.1 hx).1; omega
    refine ⟨[.int .i64 x], rfl, rfl, fun q u hu => ?_⟩
    have hq : q = 0 := by have := (List.getElem?_eq_some_iff.1 hu).1; simpa using this
    subst hq
    show W.cell? (ad.add (j * 1 + 0)) = some u
    have hx' : zs[j]? = some x := by rw [List.getElem?_take] at hx; simpa [hj] using hx
    rw [Nat.mul_one, Nat.add_zero, hcell j (by omega), List.getD_eq_getElem?_getD, hx']
    simpa using hu
end Go.Proofs.YtlmfoblgheepoaaGreatDoor.Row
end
section
namespace Go.Proofs.YtlmfoblgheepoaaGreatDoor.Pure
open Go.RowKit Go.Proofs.YtlmfoblgheepoaaGreatDoorW.PrintWords Go.Proofs.YtlmfoblgheepoaaGreatDoorW.PrintLast Go.Proofs.YtlmfoblgheepoaaGreatDoorW.PrintMore Go.Proofs.YtlmfoblgheepoaaGreatDoor.Pl Go.Proofs.YtlmfoblgheepoaaGreatDoor.Row
set_option linter.unusedVariables false
set_option linter.unusedSimpArgs false
theorem stay {p : List S29} (hv : vp p = true) {ph : Int} {d : D} (x : D) (h : (rS p d ph).1 = 0 ∨ (rS p d ph).1 = 2) : rS p (d ++ x) ph = rS p d ph := by
  have ha := ents_apt hv ph
  rcases rE_kind ha d with ⟨h0, h1, h2⟩ | ⟨h0, _⟩ | ⟨e, he, hp, hl, h0⟩
  · have hn : ∀ e ∈ ents ph p 0, ¬ e.key <+: d ++ x := by
      intro e he hp
      rcases List.prefix_or_prefix_of_prefix hp (List.prefix_append d x) with h3 | h3
      · exact h1 e he h3
      · exact h2 e he h3
    have ha2 : ¬ ((ents ph p 0).any (fun e => (d ++ x).isPrefixOf e.key) = true) := by
      rw [any_pre]
      rintro ⟨e, he, hp⟩
      exact h2 e he ((List.prefix_append d x).trans hp)
    unfold rS
    rw [rE_miss hn, if_neg ha2, h0]
  · unfold rS at h; rw [h0] at h; rcases h with h | h <;> exact absurd h (by decide)
  · have hp' : e.key <+: d ++ x := hp.trans (List.prefix_append _ _)
    have hk := hp.length_le
    have ho := ents_ok (fun c hc => vp_one hv hc) he
    have b1 := ho.kl; have b2 := ho.l8
    unfold rS
    rw [rE_hit ha he hp', h0, hit_num hl, hit_num (by rw [List.length_append]; omega)]
    have e1 : ((d ++ x).drop e.key.length).take (e.len.toNat - e.key.length) = (d.drop e.key.length).take (e.len.toNat - e.key.length) := by
      rw [List.drop_append_of_le_length hk, List.take_append_of_le_length (by rw [List.length_drop]; omega)]
    rw [e1]
theorem kinds {p : List S29} (hv : vp p = true) (ph : Int) (d : D) : (rS p d ph).2.2.2.2 = 0 ∧ ((rS p d ph).1 = 0 ∨ (rS p d ph).1 = 1 ∨ (rS p d ph).1 = 2) := by
  rcases rE_kind (ents_apt hv ph) d with ⟨h0, _⟩ | ⟨h0, _⟩ | ⟨e, he, hp, hl, h0⟩
  · unfold rS; rw [h0]; exact ⟨rfl, .inl rfl⟩
  · unfold rS; rw [h0]; exact ⟨rfl, .inr (.inl rfl)⟩
  · unfold rS; rw [h0, hit_num hl]; exact ⟨rfl, .inr (.inr rfl)⟩
theorem used_le {p : List S29} (hv : vp p = true) (ph : Int) (d : D) (h : (rS p d ph).1 = 2) : (rS p d ph).2.2.2.1 ≤ (d.length : Int) ∧ 1 ≤ d.length := by
  rcases rE_kind (ents_apt hv ph) d with ⟨h0, _⟩ | ⟨h0, _⟩ | ⟨e, he, hp, hl, h0⟩
  · unfold rS at h; rw [h0] at h; exact absurd h (by decide)
  · unfold rS at h; rw [h0] at h; exact absurd h (by decide)
  · have ho := ents_ok (fun c hc => vp_one hv hc) he
    have := ho.k1
    have := hp.length_le
    unfold rS; rw [h0, hit_num hl]
    exact ⟨by show e.len ≤ _; omega, by omega⟩
theorem more_next {p : List S29} (hv : vp p = true) (ph : Int) (d : D) (h : (rS p d ph).1 = 1) : d.length ≤ 7 ∧ ∃ c, c < 10 ∧ (rS p (d ++ [dg c]) ph).1 ≠ 0 := by
  have ha := ents_apt hv ph
  have nz : ∀ d', (∃ e ∈ ents ph p 0, e.key <+: d') ∨ (∃ e ∈ ents ph p 0, d' <+: e.key) → (rS p d' ph).1 ≠ 0 := by
    intro d' hd
    rcases rE_kind ha d' with ⟨h0, h1, h2⟩ | ⟨h0, _⟩ | ⟨e, he, hp, hl, h0⟩
    · rcases hd with ⟨e, he, hp⟩ | ⟨e, he, hp⟩
      · exact absurd hp (h1 e he)
      · exact absurd hp (h2 e he)
    · unfold rS; rw [h0]; decide
    · unfold rS; rw [h0, hit_num hl]; show (2 : Int) ≠ 0; decide
  rcases rE_kind ha d with ⟨h0, _⟩ | ⟨_, h1⟩ | ⟨e, he, hp, hl, h0⟩
  · unfold rS at h; rw [h0] at h; exact absurd h (by decide)
  · rcases h1 with ⟨e, he, hp, hl⟩ | ⟨hn, e, he, hp⟩
    · have ho := ents_ok (fun c hc => vp_one hv hc) he
      have := ho.l8
      exact ⟨by omega, 0, by decide, nz _ (.inl ⟨e, he, hp.trans (List.prefix_append _ _)⟩)⟩
    · have ho := ents_ok (fun c hc => vp_one hv hc) he
      have hk := ho.key5
      obtain ⟨y, hy⟩ := hp
      cases y with
      | nil => rw [List.append_nil] at hy; exact absurd (by rw [hy]; exact List.prefix_refl _) (hn e he)
      | cons z y =>
        have hz : isD z = true := by
          have := ho.kd
          rw [← hy, digs_append] at this
          simp [digs] at this
          exact this.2.1
        have hzr := (isD_iff z).mp hz
        have hl : d.length + 1 ≤ e.key.length := by rw [← hy, List.length_append, List.length_cons]; omega
        refine ⟨by omega, z.toNat - 48, by omega, nz _ (.inr ⟨e, he, ?_⟩)⟩
        rw [dg_of hz, ← hy]
        exact ⟨y, by simp⟩
  · unfold rS at h; rw [h0, hit_num hl] at h; exact absurd h (show ¬ (2 : Int) = 1 by decide)
theorem nine (c : Nat) (hc : c < 10) : strOfNums [wrap64 (48 + (c : Int)) % 256] = b [dg c] := by
  have := one_dig c
  rw [Int.tmod_eq_emod_of_nonneg (by omega)] at this
  have e : (c : Int) % 10 = c := by omega
  rw [e] at this
  exact this
theorem comp_in {p : List S29} (hv : vp p = true) {ph : Int} (hph : okPh ph = true) {d : D} (hd : digs d = true) (hl : d.length ≤ 7) (many : Int)
    (hnext : ∀ d', digs d' = true → d'.length = d.length + 1 → (rS p d' ph).1 = 1 → Ev (fun k => dialtonelaw12_completed.l0 k p (b d') ph (wrap64 (many + 1))) true) :
    ∀ r c : Nat, r + c = 10 → (∃ c', c ≤ c' ∧ c' < 10 ∧ (rS p (d ++ [dg c']) ph).1 ≠ 0) → Ev (fun k => dialtonelaw12_completed.l1 k p (b d) ph many false (c : Int)) true
  | 0, c, h, ⟨c', h1, h2, _⟩ => by omega
  | r + 1, c, h, ⟨c', h1, h2, h3⟩ => by
    have hc : c < 10 := by omega
    have hc' : (c : Int) < 10 := by omega
    refine Ev.step (fun k => by rw [dialtonelaw12_completed.l1]) ?_
    simp only [hc', if_true, Bool.not_false]
    refine Ev.step (fun k => by rw [dialtonelaw12_completed.j2]) ?_
    have s1 : (b d).size + (b [dg c]).size ≤ 9223372036854775807 := by rw [b_size, b_size]; simp; omega
    simp only [if_true, Option.bind_some, nine c hc, s1, b_append]
    have dd : digs (d ++ [dg c]) = true := by rw [digs_append, hd]; simp [digs, dg_isD]
    have dl : (d ++ [dg c]).length = d.length + 1 := by simp
    refine Ev.bind (read_ev p hv ph hph (d ++ [dg c]) dd (by omega)) ?_
    obtain ⟨e5, ek⟩ := kinds hv ph (d ++ [dg c])
    simp only [e5, if_true]
    refine Ev.step (fun k => by rw [dialtonelaw12_completed.j3]) ?_
    have hw := wi c (by omega)
    rcases ek with k0 | k1 | k2
    · have t1 : ((rS p (d ++ [dg c]) ph).1 == 2) = false := by rw [k0]; rfl
      have t2 : ¬ (0 : Int) = 1 := by decide
      simp only [t1, Bool.false_eq_true, if_false, if_true, k0, t2, hw]
      refine comp_in hv hph hd hl many hnext r (c + 1) (by omega) ⟨c', ?_, h2, h3⟩
      rcases Nat.lt_or_ge c c' with h4 | h4
      · omega
      · have : c' = c := by omega
        rw [this] at h3; exact absurd k0 h3
    · have t1 : ((rS p (d ++ [dg c]) ph).1 == 2) = false := by rw [k1]; rfl
      simp only [t1, Bool.false_eq_true, if_false, if_true, k1, hw]
      refine Ev.step (fun k => by rw [dialtonelaw12_completed.l1]) ?_
      have goal : Ev (fun k => dialtonelaw12_completed.j2 k p (b (d ++ [dg c])) ph many true ((c + 1 : Nat) : Int) false) true := by
        refine Ev.step (fun k => by rw [dialtonelaw12_completed.j2]) ?_
        simp only [Bool.false_eq_true, if_false, if_true]
        exact hnext _ dd dl k1
      by_cases h10 : ((c + 1 : Nat) : Int) < 10
      · simp only [h10, if_true, Bool.not_true]; exact goal
      · simp only [h10, if_false]; exact goal
    · have t1 : ((rS p (d ++ [dg c]) ph).1 == 2) = true := by rw [k2]; rfl
      simp only [t1, if_true]
      exact Ev.now _
theorem comp_out {p : List S29} (hv : vp p = true) {ph : Int} (hph : okPh ph = true) : ∀ (r many : Nat) (d : D), digs d = true → (rS p d ph).1 = 1 → 8 ≤ d.length + r → many + r ≤ 8 → Ev (fun k => dialtonelaw12_completed.l0 k p (b d) ph (many : Int)) true
  | 0, many, d, hd, h, h1, h2 => by have := (more_next hv ph d h).1; omega
  | r + 1, many, d, hd, h, h1, h2 => by
    obtain ⟨hl, c, hc, hz⟩ := more_next hv ph d h
    refine Ev.step (fun k => by rw [dialtonelaw12_completed.l0]) ?_
    have h3 : (many : Int) < 8 := by omega
    simp only [h3, if_true]
    refine comp_in hv hph hd hl (many : Int) (fun d' hd' hl' hk' => ?_) 10 0 (by omega) ⟨c, by omega, hc, hz⟩
    rw [wi many (by omega)]
    exact comp_out hv hph r (many + 1) d' hd' hk' (by omega) (by omega)
theorem completed_ev {p : List S29} (hv : vp p = true) {ph : Int} (hph : okPh ph = true) (d : D) (hd : digs d = true) (h : (rS p d ph).1 = 1) : Ev (fun k => dialtonelaw12_completed.f k p (b d) ph) true := by
  have := comp_out hv hph 8 0 d hd h (by omega) (by omega)
  simpa [dialtonelaw12_completed.f] using this
theorem digits_loop {p : List S29} (hv : vp p = true) {ph : Int} (hph : okPh ph = true) (all : D) (hd : digs all = true) (hl : all.length ≤ 16) :
    ∀ (r i : Nat), r + i = all.length + 1 → ∀ w1 w2 w3 w4 : Int, ((w1 = 0 ∨ w1 = 2) → (rS p (all.take i) ph).1 = w1 ∧ (rS p (all.take i) ph).2.1 = w2 ∧ (rS p (all.take i) ph).2.2.1 = w3 ∧ (rS p (all.take i) ph).2.2.2.1 = w4) →
      Ev (fun k => dialtonelaw12_PlanDigits.l0 k true p ph (b all) (i : Int) w1 w2 w3 w4) true
  | 0, i, h, w1, w2, w3, w4, hw => by
    refine Ev.step (fun k => by rw [dialtonelaw12_PlanDigits.l0]) ?_
    have h1 : ¬ (i : Int) ≤ (b all).size := by rw [b_size]; omega
    simp only [h1, if_false]
    exact Ev.now _
  | r + 1, i, h, w1, w2, w3, w4, hw => by
    refine Ev.step (fun k => by rw [dialtonelaw12_PlanDigits.l0]) ?_
    have h1 : (i : Int) ≤ (b all).size := by rw [b_size]; omega
    have h2 : (0 : Int) ≤ i := by omega
    simp only [h1, h2, if_true, Int.toNat_natCast, ext_take]
    have td := digs_take hd i
    have tl : (all.take i).length = i := by rw [List.length_take]; omega
    refine Ev.bind (read_ev p hv ph hph (all.take i) td (by omega)) ?_
    obtain ⟨e5, ek⟩ := kinds hv ph (all.take i)
    have hst : ((rS p (all.take i) ph).1 = 0 ∨ (rS p (all.take i) ph).1 = 2) → rS p (all.take (i + 1)) ph = rS p (all.take i) ph := by
      intro hk
      by_cases hi : i < all.length
      · rw [← take_at all i hi]; exact stay hv _ hk
      · rw [List.take_of_length_le (by omega), List.take_of_length_le (by omega)]
    have hus := used_le hv ph (all.take i)
    have hco := completed_ev hv hph (all.take i) td
    obtain ⟨R, hR⟩ : ∃ R, rS p (all.take i) ph = R := ⟨_, rfl⟩
    rw [hR] at e5 ek hst hus hco hw ⊢
    have ih := digits_loop hv hph all hd hl r (i + 1) (by omega) R.1 R.2.1 R.2.2.1 R.2.2.2.1 (fun hk => by rw [hst hk]; exact ⟨rfl, rfl, rfl, rfl⟩)
    rw [← wi i (by omega)] at ih
    have two : Ev (fun k => dialtonelaw12_PlanDigits.j2 k true p ph (b all) (i : Int) false R.1 R.2.1 R.2.2.1 R.2.2.2.1) true := by
      refine Ev.step (fun k => by rw [dialtonelaw12_PlanDigits.j2]) ?_
      simp only [Bool.false_eq_true, if_false]
      by_cases k2 : R.1 = 2
      · have hu : ¬ R.2.2.2.1 > (i : Int) := by have := (hus k2).1; rw [tl] at this; omega
        simp only [k2, if_true, hu, if_false]
        rw [k2] at ih; exact ih
      · simp only [k2, if_false]; exact ih
    have one : Ev (fun k => dialtonelaw12_PlanDigits.j1 k true p ph (b all) (i : Int) false R.1 R.2.1 R.2.2.1 R.2.2.2.1) true := by
      refine Ev.step (fun k => by rw [dialtonelaw12_PlanDigits.j1]) ?_
      simp only [Bool.false_eq_true, if_false]
      by_cases k1 : R.1 = 1
      · simp only [k1, if_true, h1, h2, Int.toNat_natCast, ext_take]
        refine Ev.bind (hco k1) ?_
        rw [k1] at two
        exact two
      · simp only [k1, if_false]; exact two
    have zero : (i : Int) = 0 → (R.1 == 2) = false := by
      intro hi
      rw [beq_eq_false_iff_ne]
      intro k2
      have := (hus k2).2
      omega
    have same : (w1 = 0 ∨ w1 = 2) → (!(R.1 == w1) || (!(R.2.1 == w2) || (!(R.2.2.1 == w3) || (!(R.2.2.2.1 == w4))))) = false := by
      intro hk
      obtain ⟨q1, q2, q3, q4⟩ := hw hk
      rw [q1, q2, q3, q4]; simp
    simp only [e5, if_true]
    have fin : Ev (fun k => if (i : Int) = 0 then dialtonelaw12_PlanDigits.j1 k true p ph (b all) (i : Int) (R.1 == 2) R.1 R.2.1 R.2.2.1 R.2.2.2.1 else dialtonelaw12_PlanDigits.j1 k true p ph (b all) (i : Int) false R.1 R.2.1 R.2.2.1 R.2.2.2.1) true := by
      by_cases hi : (i : Int) = 0
      · simp only [hi, if_true]
        rw [zero hi]; rw [hi] at one; exact one
      · simp only [hi, if_false]; exact one
    by_cases w0 : w1 = 0
    · have hs := same (.inl w0)
      have w2' : ¬ w1 = 2 := by omega
      rw [w0] at hs
      have n2 : ¬ (0 : Int) = 2 := by decide
      simp only [w0, if_true, hs, Bool.false_eq_true, if_false, n2]
      exact fin
    · by_cases w2' : w1 = 2
      · have hs := same (.inr w2')
        rw [w2'] at hs
        have n2 : ¬ (2 : Int) = 0 := by decide
        simp only [w2', n2, if_true, hs, Bool.false_eq_true, if_false]
        exact fin
      · simp only [w0, w2', if_false]
        exact fin
theorem PlanDigits : ∀ (l0 : List S23) (l1 : List Int) (a2 : Int) (a3 : Int) (a4 : Int), l0.length ≤ 9223372036854775807 → (∀ x ∈ l0, I64 x.f0 ∧ I64 x.f1 ∧ I64 x.f2) → l1.length ≤ 9223372036854775807 → (∀ x ∈ l1, I64 x) → I64 a2 → I64 a3 → I64 a4 → ∃ k, dialtonelaw12_PlanDigits.f k l0 l1 a2 a3 a4 = some true := by
  intro l0 l1 a2 a3 a4 hlen hl hlen1 hl1 h2 h3 h4
  apply Ev.rounds
  obtain ⟨p, hv, h8, evp⟩ := made_ev l0 hl
  obtain ⟨m, hm, evm⟩ := number_ev p hv a2 a3 h2 h3
  obtain ⟨r, lr, er⟩ := pick_lt a4 h4 3 (by decide)
  have er' : dialtonelaw12_pick.f a4 3 = some (r : Int) := er
  have hr := ph_of r lr
  obtain ⟨q, lq, eq⟩ := pick_lt a4 h4 2 (by decide)
  have eq' : dialtonelaw12_pick.f a4 2 = some (q : Int) := eq
  have hq := ph_of q (by omega)
  obtain ⟨t, td, tl, t0, tle, tev⟩ := text_take l1 hl1 8 (by decide) hlen1
  have t0' : (0 : Int) ≤ mn (l1.length : Int) 8 := t0
  have tle' : mn (l1.length : Int) 8 ≤ l1.length := tle
  unfold dialtonelaw12_PlanDigits.f
  refine Ev.bind sane_ev ?_
  simp only [if_true]
  refine Ev.bind evp ?_
  simp only [er', Option.bind_some]
  refine Ev.bind evm ?_
  simp only [eq', Option.bind_some]
  refine Ev.bind (write_ev p hv m hm _ hq.1) ?_
  obtain ⟨wd, wl⟩ := wS_first hv m (wrap64 (1 + (q : Int)))
  simp only [t0', tle', if_true]
  refine Ev.bind tev ?_
  have s1 : (b (wS p m (wrap64 (1 + (q : Int)))).1).size + (b t).size ≤ 9223372036854775807 := by rw [b_size, b_size]; omega
  simp only [s1, if_true, b_append]
  have := digits_loop hv hr.1 ((wS p m (wrap64 (1 + (q : Int)))).1 ++ t) (by rw [digs_append, wd, td]; rfl) (by rw [List.length_append]; omega) _ 0 (Nat.add_zero _) 1 0 0 0 (fun h => by rcases h with h | h <;> exact absurd h (by decide))
  simpa using this
end Go.Proofs.YtlmfoblgheepoaaGreatDoor.Pure
end
section
namespace Go.Proofs.YtlmfoblgheepoaaGreatDoor.planDigits
open Go.ChangeShapes Go.WideShapes Go.ChangeAt Go.RowKit Go.Proofs.GOpen Go.Proofs.YtlmfoblgheepoaaGreatDoor.Pl Go.Proofs.YtlmfoblgheepoaaGreatDoor.Row Go.Proofs.YtlmfoblgheepoaaGreatDoorW.PrintWords
open Go.ChangeMaps (open_string shut_string)
theorem glb {W : World} (h : laidMetH Tryz.prog Rows.planDigitsRow.laid W) : Glb W := by
  rw [MakeChecks.laidMetH_plain _ _ _ (by kernel_rfl)] at h
  have hr := Lib.laidMet.reads h (n := "internal/strconv.uint64pow10") (d := Rows.laid_internal_strconv_uint64pow10) (by simp [Rows.planDigitsRow])
  exact glb_of_reads hr
set_option maxRecDepth 100000 in
theorem lifted (os : Os) (started : os.Started) (H : Type) (enc : TypeId × Value → H) :
    ReturnsInHanded {} Tryz.checked os 6 .any (fun w args => (Rows.planDigitsSpec.pre enc Tryz.prog Tryz.f6 [] false w args ∧ laidMetH Tryz.prog Rows.planDigitsRow.laid w) ∧ sizedMet enc Tryz.prog Tryz.f6 (OpenSpec.ofChange Rows.planDigitsSpec) false w args)
      (Rows.planDigitsSpec.post enc Tryz.prog Tryz.f6 false true false false) := by
  refine returnsInHanded_of_change_and (C := Tryz.checked) (X := fun w _ => laidMetH Tryz.prog Rows.planDigitsRow.laid w) (fun _ _ _ hh h => h.of_heap hh) own started (by kernel_rfl) Tryz.func6
    (ChangeSpec.witness_shaped (enc := enc) (C := Tryz.checked) (os := os) (X := fun w _ => laidMetH Tryz.prog Rows.planDigitsRow.laid w) false (World.laidAll Tryz.prog os Rows.planDigitsRow.laid) #[.slice none 0 0, .slice none 0 0, .int .i64 0, .int .i64 0, .int .i64 0] 8 (World.laidAll_os _ _ _)
      (World.shaped_of_ZipB (by kernel_rfl) (by kernel_rfl)) (by kernel_rfl) (by kernel_rfl) (by kernel_rfl)
      (by rw [MakeChecks.laidMetH_plain _ _ _ (by kernel_rfl)]; exact laidMet_laidAll _ (by kernel_rfl) (by kernel_rfl))) ?_
  intro W base args ds gs before hval0 hW _ _ hL _
  have hval : ∀ (j : Nat) t v, Tryz.f6.params[j]? = some t → args[j]? = some v → Value.okWide Tryz.prog W .any base t v := hval0
  have hW' := hW
  obtain ⟨p, q, hA0, hV, rfl, _, _⟩ := hW
  have hA : DataW.TrodAll enc Tryz.prog W 0 (fun _ => true) true Tryz.f6.params.toList args.toList ds p := hA0
  rw [Tryz.params6] at hA hval
  obtain ⟨v0, vs0, d0, ds0, p0, q0, hargs, rfl, rfl, h0, r0⟩ := trodAll_cons hA
  obtain ⟨v1, vs1, d1, ds1, p1, q1, rfl, rfl, rfl, h1, r1⟩ := trodAll_cons r0
  obtain ⟨v2, vs2, d2, ds2, p2, q2, rfl, rfl, rfl, h2, r2⟩ := trodAll_cons r1
  obtain ⟨v3, vs3, d3, ds3, p3, q3, rfl, rfl, rfl, h3, r3⟩ := trodAll_cons r2
  obtain ⟨v4, vs4, d4, ds4, p4, q4, rfl, rfl, rfl, h4, r4⟩ := trodAll_cons r3
  obtain ⟨rfl, rfl, rfl⟩ := trodAll_nil r4
  obtain rfl : args = #[v0, v1, v2, v3, v4] := by cases args; simp_all
  obtain ⟨rfl, rfl⟩ := trodVars_none hV
  have k0 := h0
  have lt0 : ∀ x ∈ p0, x.block < W.heap.size := by obtain ⟨m, hm⟩ := k0; exact DataW.trod_lt m _ _ _ hm
  obtain ⟨a0, len0, cap0, rfl⟩ := okWide_slice Tryz.underlying22 (hval 0 22 v0 rfl rfl)
  obtain ⟨l0, rfl, hc0, hm0, hC0, hw0⟩ := read22 h0
  have k1 := h1
  have lt1 : ∀ x ∈ p1, x.block < W.heap.size := by obtain ⟨m, hm⟩ := k1; exact DataW.trod_lt m _ _ _ hm
  obtain ⟨a1, len1, cap1, rfl⟩ := okWide_slice Tryz.underlying25 (hval 1 25 v1 rfl rfl)
  obtain ⟨l1, rfl, hc1, hm1, hC1, hw1⟩ := read25 h1
  have k2 := h2
  have lt2 : ∀ x ∈ p2, x.block < W.heap.size := by obtain ⟨m, hm⟩ := k2; exact DataW.trod_lt m _ _ _ hm
  obtain ⟨a2, rfl, rfl, rfl, w2⟩ := open_int Tryz.underlying3 (hval 2 3 v2 rfl rfl) h2
  have k3 := h3
  have lt3 : ∀ x ∈ p3, x.block < W.heap.size := by obtain ⟨m, hm⟩ := k3; exact DataW.trod_lt m _ _ _ hm
  obtain ⟨a3, rfl, rfl, rfl, w3⟩ := open_int Tryz.underlying3 (hval 3 3 v3 rfl rfl) h3
  have k4 := h4
  have lt4 : ∀ x ∈ p4, x.block < W.heap.size := by obtain ⟨m, hm⟩ := k4; exact DataW.trod_lt m _ _ _ hm
  obtain ⟨a4, rfl, rfl, rfl, w4⟩ := open_int Tryz.underlying3 (hval 4 3 v4 rfl rfl) h4
  clear hA0 hval0
  obtain ⟨k, hk⟩ := Pure.PlanDigits l0 l1 a2 a3 a4 hm0 hw0 hm1 hw1 (rngI64 w2) (rngI64 w3) (rngI64 w4)
  refine (dialtonelaw12_PlanDigits.calls k _ _ l0 _ _ l1 a2 a3 a4 true W hC0 hc0 hC1 hc1 (glb hL) hk).mono fun e W' ⟨he, bel⟩ => ?_
  subst he
  exact ⟨_, rfl, _, _, _, [], _, [], hW', trodAll_mk1 (shut_bool Tryz.underlying4 _), (trodAll_cons_mk (Below.trod laidOut (by kernel_rfl) (of_decide_eq_true (by kernel_rfl)) k0 bel lt0) (trodAll_cons_mk (Below.trod laidOut (by kernel_rfl) (of_decide_eq_true (by kernel_rfl)) k1 bel lt1) (trodAll_cons_mk (Below.trod laidOut (by kernel_rfl) (of_decide_eq_true (by kernel_rfl)) k2 bel lt2) (trodAll_cons_mk (Below.trod laidOut (by kernel_rfl) (of_decide_eq_true (by kernel_rfl)) k3 bel lt3) (trodAll_cons_mk (Below.trod laidOut (by kernel_rfl) (of_decide_eq_true (by kernel_rfl)) k4 bel lt4) trodAll_mk0))))), rfl, bel.frame _, fun h => by cases h⟩
theorem over : Rows.PlanDigitsSaid :=
  OpenClaim.holds_of_wide 6 Tryz.f6 rfl rfl rfl rfl rfl rfl rfl ⟨rfl, rfl, rfl, rfl, rfl⟩ rfl rfl rfl rfl rfl (by kernel_rfl) Tryz.func6 (by kernel_rfl)
    (of_decide_eq_true (by kernel_rfl)) (by unfold Func.isWrapper; first | (rw [if_pos (by decide +kernel)]; kernel_rfl) | (rw [if_neg (by decide +kernel)]; exact ⟨rfl, rfl⟩))
    (fun os started H enc _ => lifted os started H enc)
theorem plain (f : FuncId) (fn : Func) (hf : Tryz.pinned.checked.prog.funcNamed "dialtone/dialtonelaw12.PlanDigits" = some f) (hfn : Tryz.pinned.checked.prog.funcs[f]? = some fn) :
    true = Tryz.pinned.checked.prog.looks [] ∧ ∀ (j : Nat) t, fn.params[j]? = some t → Tryz.pinned.checked.prog.wantsStandIn t = false := by
  obtain rfl : f = 6 := Option.some.inj ((show Tryz.prog.funcNamed "dialtone/dialtonelaw12.PlanDigits" = some 6 by kernel_rfl).symm.trans hf) |>.symm
  obtain rfl : fn = Tryz.f6 := (Option.some.inj (Tryz.func6.symm.trans hfn)).symm
  refine ⟨by kernel_rfl, fun j t ht => ?_⟩
  rw [Tryz.params6] at ht
  have hm : t ∈ [22, 25, 3, 3, 3] := by simpa using Array.mem_of_getElem? ht
  have hall : ([22, 25, 3, 3, 3].all fun u => !Tryz.prog.wantsStandIn u) = true := by kernel_rfl
  exact (show Tryz.prog.wantsStandIn t = false by simpa using List.all_eq_true.1 hall t hm)
theorem card : Rows.PlanDigitsCardSaid :=
  Claim7.holds_tied_plain_at .later [] _ _ _ _ over (fun _ h => by cases h) (by kernel_rfl) (fun _ h => by cases h) planDigits_row_tie rfl ⟨rfl, rfl⟩ (by kernel_rfl) rfl plain (by kernel_rfl)
end Go.Proofs.YtlmfoblgheepoaaGreatDoor.planDigits
namespace Go.Proofs.YtlmfoblgheepoaaGreatDoor
theorem planDigits_holds : Rows.PlanDigitsCardSaid := planDigits.card
end Go.Proofs.YtlmfoblgheepoaaGreatDoor
end
