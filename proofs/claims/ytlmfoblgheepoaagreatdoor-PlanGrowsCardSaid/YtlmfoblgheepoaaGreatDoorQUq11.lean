/- Uq: part 12 of the proof that the law's row holds: the printed walk of the program's functions, the plain law, the row. -/
import Derived.Test.YtlmfoblgheepoaaGreatDoorQUq10
section
namespace Go.Proofs.YtlmfoblgheepoaaGreatDoor.Pure
open Go.RowKit Go.Proofs.YtlmfoblgheepoaaGreatDoorW.PrintWords Go.Proofs.YtlmfoblgheepoaaGreatDoorW.PrintLast Go.Proofs.YtlmfoblgheepoaaGreatDoorW.PrintMore Go.Proofs.YtlmfoblgheepoaaGreatDoor.Pl
set_option linter.unusedVariables false
set_option linter.unusedSimpArgs false
structure En where
  key : D
  idx : Int
  len : Int
  st : D
def zs (c : S29) : Nat := ((8 - ((cn c).length : Int)) - (c.f2 - ((co c).length : Int))).toNat
def eOld (i : Nat) (c : S29) : En := ⟨co c, i, c.f2, cn c ++ List.replicate (zs c) 48⟩
def eNew (i : Nat) (c : S29) : En := ⟨cn c, i, 8, cn c⟩
def es (ph : Int) (i : Nat) (c : S29) : List En := (if ph ≠ 3 then [eOld i c] else []) ++ (if ph ≠ 1 then [eNew i c] else [])
def ents (ph : Int) : List S29 → Nat → List En
  | [], _ => []
  | c :: r, i => es ph i c ++ ents ph r (i + 1)
theorem apt_iff (a d : D) : apt a d = true ↔ ¬ a <+: d ∧ ¬ d <+: a := by
  unfold apt
  rw [← List.isPrefixOf_iff_prefix, ← List.isPrefixOf_iff_prefix]
  cases a.isPrefixOf d <;> cases d.isPrefixOf a <;> decide
theorem apt_symm {a d : D} (h : apt a d = true) : apt d a = true := by
  rw [apt_iff] at h ⊢; exact ⟨h.2, h.1⟩
theorem dif_symm {c d : S29} (h : dif c d = true) : dif d c = true := by
  unfold dif at h ⊢
  simp only [Bool.and_eq_true] at h ⊢
  exact ⟨apt_symm h.1, apt_symm h.2.1, apt_symm h.2.2.2, apt_symm h.2.2.1⟩
theorem pgo_pair : ∀ (rest done : List S29), pgo done rest = true → rest.Pairwise (fun c d => dif c d = true) ∧ ∀ c ∈ rest, ∀ d ∈ done, dif c d = true
  | [], _, _ => ⟨List.Pairwise.nil, by intro c hc; cases hc⟩
  | c :: r, done, h => by
    rw [pgo, Bool.and_eq_true, List.all_eq_true] at h
    obtain ⟨h1, h2⟩ := pgo_pair r (done ++ [c]) h.2
    refine ⟨List.Pairwise.cons (fun d hd => dif_symm (h2 d hd c (by simp))) h1, fun x hx d hd => ?_⟩
    rcases List.mem_cons.mp hx with rfl | hx
    · exact h.1 d hd
    · exact h2 x hx d (by simp [hd])
theorem vp_pair {p : List S29} (h : vp p = true) : p.Pairwise (fun c d => dif c d = true) := (pgo_pair p [] ((vp_iff p).mp h).2.2).1
theorem es_key {ph : Int} {i : Nat} {c : S29} {e : En} (he : e ∈ es ph i c) : e.key = co c ∨ e.key = cn c := by
  unfold es at he
  rcases List.mem_append.mp he with he | he
  · split at he
    · rw [List.mem_singleton.mp he]; exact .inl rfl
    · cases he
  · split at he
    · rw [List.mem_singleton.mp he]; exact .inr rfl
    · cases he
theorem ents_key {ph : Int} : ∀ {p : List S29} {i : Nat} {e : En}, e ∈ ents ph p i → ∃ c ∈ p, e.key = co c ∨ e.key = cn c
  | [], _, _, he => by cases he
  | c :: r, i, e, he => by
    rcases List.mem_append.mp he with he | he
    · exact ⟨c, List.mem_cons_self, es_key he⟩
    · obtain ⟨d, hd, h⟩ := ents_key he
      exact ⟨d, List.mem_cons_of_mem _ hd, h⟩
theorem dif_keys {c d : S29} (h : dif c d = true) {x y : D} (hx : x = co c ∨ x = cn c) (hy : y = co d ∨ y = cn d) : apt x y = true := by
  unfold dif at h
  simp only [Bool.and_eq_true] at h
  rcases hx with rfl | rfl <;> rcases hy with rfl | rfl
  · exact h.1
  · exact h.2.2.1
  · exact h.2.2.2
  · exact h.2.1
theorem ents_pair {ph : Int} : ∀ {p : List S29} {i : Nat}, p.Pairwise (fun c d => dif c d = true) → (∀ c ∈ p, One c) → (ents ph p i).Pairwise (fun e f => apt e.key f.key = true)
  | [], _, _, _ => List.Pairwise.nil
  | c :: r, i, h, ho => by
    cases h with
    | cons h1 h2 =>
    rw [ents, List.pairwise_append]
    refine ⟨?_, ents_pair h2 (fun x hx => ho x (List.mem_cons_of_mem _ hx)), fun e he f hf => ?_⟩
    · have := (ho c List.mem_cons_self).ap
      unfold es
      by_cases h3 : ph = 3 <;> by_cases h1 : ph = 1 <;> simp [h3, h1, eOld, eNew] <;> exact this
    · obtain ⟨d, hd, hk⟩ := ents_key hf
      exact dif_keys (h1 d hd) (es_key he) hk
theorem pair_eq : ∀ {l : List En}, l.Pairwise (fun e f => apt e.key f.key = true) → ∀ {e f : En}, e ∈ l → f ∈ l → e = f ∨ apt e.key f.key = true
  | [], _, _, _, he, _ => by cases he
  | x :: l, h, e, f, he, hf => by
    cases h with
    | cons h1 h2 =>
    rcases List.mem_cons.mp he with he | he
    · rcases List.mem_cons.mp hf with hf | hf
      · rw [he, hf]; exact .inl rfl
      · rw [he]; exact .inr (h1 f hf)
    · rcases List.mem_cons.mp hf with hf | hf
      · rw [hf]; exact .inr (apt_symm (h1 e he))
      · exact pair_eq h2 he hf
theorem pair_hit {l : List En} (h : l.Pairwise (fun e f => apt e.key f.key = true)) {e f : En} (he : e ∈ l) (hf : f ∈ l) {d : D} (h1 : e.key <+: d) (h2 : f.key <+: d) : e = f := by
  rcases pair_eq h he hf with h3 | h3
  · exact h3
  · rw [apt_iff] at h3
    rcases List.prefix_or_prefix_of_prefix h1 h2 with h4 | h4
    · exact absurd h4 h3.1
    · exact absurd h4 h3.2
end Go.Proofs.YtlmfoblgheepoaaGreatDoor.Pure
end
section
namespace Go.Proofs.YtlmfoblgheepoaaGreatDoor.Pure
open Go.RowKit Go.Proofs.YtlmfoblgheepoaaGreatDoorW.PrintWords Go.Proofs.YtlmfoblgheepoaaGreatDoorW.PrintLast Go.Proofs.YtlmfoblgheepoaaGreatDoorW.PrintMore Go.Proofs.YtlmfoblgheepoaaGreatDoor.Pl
set_option linter.unusedVariables false
set_option linter.unusedSimpArgs false
def J64 (n : Int) : Prop := -9223372036854775808 ≤ n ∧ n ≤ 9223372036854775807
theorem pick_lt (c : Int) (hc : J64 c) (n : Nat) (hn : 0 < n) : ∃ r : Nat, r < n ∧ dialtoneref12_pick.f c (n : Int) = some (r : Int) := by
  obtain ⟨h1, h2⟩ := hc
  unfold dialtoneref12_pick.f
  have hz : ¬ (n : Int) = 0 := by omega
  by_cases h : c < 0
  · have e : wrap64 (-(wrap64 (c + 1))) = ((-(c + 1)).toNat : Int) := by rw [w64 (n := c + 1) (by omega) (by omega), w64 (by omega) (by omega)]; omega
    refine ⟨(-(c + 1)).toNat % n, Nat.mod_lt _ hn, ?_⟩
    rw [if_pos h, if_neg hz, e, Int.tmod_eq_emod_of_nonneg (by omega)]
    rfl
  · refine ⟨c.toNat % n, Nat.mod_lt _ hn, ?_⟩
    have e : c = (c.toNat : Int) := by omega
    rw [if_neg h, if_neg hz, Int.tmod_eq_emod_of_nonneg (by omega)]
    rw [e]; rfl
theorem third (x : Int) (h : J64 x) (n : Int) (hn : n = 3 ∨ n = 16) : J64 (wrap64 (Int.tdiv x n)) := by
  obtain ⟨h1, h2⟩ := h
  have : -9223372036854775808 ≤ Int.tdiv x n ∧ Int.tdiv x n ≤ 9223372036854775807 := by
    rcases hn with rfl | rfl <;> (rw [Int.tdiv_eq_ediv]; have s3 : Int.sign 3 = 1 := rfl; have s16 : Int.sign 16 = 1 := rfl; split <;> omega)
  rw [w64 this.1 this.2]; exact this
theorem ph_of (r : Nat) (h : r < 3) : okPh (wrap64 (1 + (r : Int))) = true ∧ wrap64 (1 + (r : Int)) = ((1 + r : Nat) : Int) := by
  have : wrap64 (1 + (r : Int)) = ((1 + r : Nat) : Int) := by rw [w64 (by omega) (by omega)]; omega
  refine ⟨?_, this⟩
  rw [this]; unfold okPh; simp; omega
structure Almost (c : S29) : Prop where
  od : digs (co c) = true
  nd : digs (cn c) = true
  s0 : c.f0.size ≤ 3
  s1 : c.f1.size ≤ 3
theorem one_made (x0 x1 x2 : Int) (h0 : J64 x0) (h1 : J64 x1) (h2 : J64 x2) : ∃ c : S29, Almost c ∧ J64 c.f2 ∧ Ev (fun k => dialtoneref12_One.f k x0 x1 x2) (c.f0, c.f1, c.f2) := by
  obtain ⟨r1, l1, e1⟩ := pick_lt (wrap64 (Int.tdiv x0 3)) (third x0 h0 3 (.inl rfl)) 1000 (by decide)
  obtain ⟨r2, l2, e2⟩ := pick_lt x0 h0 3 (by decide)
  obtain ⟨r3, l3, e3⟩ := pick_lt (wrap64 (Int.tdiv x1 3)) (third x1 h1 3 (.inl rfl)) 1000 (by decide)
  obtain ⟨r4, l4, e4⟩ := pick_lt x1 h1 3 (by decide)
  obtain ⟨o, so, od, ev1⟩ := prefix_ev r1 (1 + r2) (by omega) l1
  obtain ⟨n, sn, nd, ev2⟩ := prefix_ev r3 (1 + r4) (by omega) l3
  have hm : mn (wrap64 (7 - (o.size : Int))) (wrap64 (8 - (n.size : Int))) = ((min (7 - o.size) (8 - n.size) : Nat) : Int) := by
    rw [w64 (n := 7 - (o.size : Int)) (by omega) (by omega), w64 (n := 8 - (n.size : Int)) (by omega) (by omega)]
    unfold mn; split <;> omega
  obtain ⟨r5, l5, e5⟩ := pick_lt x2 h2 (min (7 - o.size) (8 - n.size)) (by omega)
  have hw : wrap64 (wrap64 ((o.size : Int) + 1) + (r5 : Int)) = ((o.size + 1 + r5 : Nat) : Int) := by
    rw [w64 (n := (o.size : Int) + 1) (by omega) (by omega), w64 (by omega) (by omega)]; omega
  refine ⟨⟨o, n, ((o.size + 1 + r5 : Nat) : Int)⟩, ⟨od, nd, by show o.size ≤ 3; omega, by show n.size ≤ 3; omega⟩, ⟨by show _ ≤ ((o.size + 1 + r5 : Nat) : Int); omega, by show ((o.size + 1 + r5 : Nat) : Int) ≤ _; omega⟩, ?_⟩
  unfold dialtoneref12_One.f
  have e1' : dialtoneref12_pick.f (wrap64 (Int.tdiv x0 3)) 1000 = some (r1 : Int) := e1
  have e2' : dialtoneref12_pick.f x0 3 = some (r2 : Int) := e2
  have e3' : dialtoneref12_pick.f (wrap64 (Int.tdiv x1 3)) 1000 = some (r3 : Int) := e3
  have e4' : dialtoneref12_pick.f x1 3 = some (r4 : Int) := e4
  simp only [e1', e2', Option.bind_some, (ph_of r2 l2).2]
  refine Ev.bind ev1 ?_
  simp only [e3', e4', Option.bind_some, (ph_of r4 l4).2]
  refine Ev.bind ev2 ?_
  simp only [hm, e5, Option.bind_some, hw]
  exact Ev.now _
theorem rd23 (l : List S23) (i : Nat) (h : i < l.length) : rd_T23 l (i : Int) = l[i] := by
  unfold rd_T23; simp [h]
def Ints3 (l : List S23) : Prop := ∀ x ∈ l, J64 x.f0 ∧ J64 x.f1 ∧ J64 x.f2
theorem made_from (l : List S23) (hl : Ints3 l) : ∀ m i : Nat, m + i = l.length → ∀ p : List S29, vp p = true → p.length ≤ 8 → ∃ q, vp q = true ∧ q.length ≤ 8 ∧ Ev (fun k => dialtoneref12_Made.l0 k l p (i : Int)) q := by
  intro m
  induction m with
  | zero =>
    intro i hi p hv h8
    refine ⟨p, hv, h8, Ev.step (fun k => by rw [dialtoneref12_Made.l0]) ?_⟩
    have h1 : ¬ ((i : Int) < l.length) := by omega
    simp only [h1, if_false]
    refine Ev.step (fun k => by rw [dialtoneref12_Made.j1]) ?_
    simp only [Bool.false_eq_true, if_false]
    exact Ev.now _
  | succ m ih =>
    intro i hi p hv h8
    have h1 : ((i : Int) < l.length) := by omega
    have hil : i < l.length := by omega
    by_cases h16 : i < 16
    · have h2 : ((i : Int) < 16) := by omega
      by_cases h88 : p.length < 8
      · have h3 : ((p.length : Int) < 8) := by omega
        have hx := hl l[i] (List.getElem_mem hil)
        obtain ⟨c, ha, hj, hev⟩ := one_made l[i].f0 l[i].f1 l[i].f2 hx.1 hx.2.1 hx.2.2
        have hsm : smallP (p ++ [c]) := by
          intro d hd
          rcases List.mem_append.mp hd with hd | hd
          · exact vp_small hv d hd
          · rw [List.mem_singleton.mp hd]
            have a := ha.s0; have a' := ha.s1
            omega
        have hnx : ∃ q, vp q = true ∧ q.length ≤ 8 ∧ Ev (fun k => if vp (p ++ [c]) = true then dialtoneref12_Made.l0 k l (p ++ [c]) (wrap64 ((i : Int) + 1)) else dialtoneref12_Made.l0 k l p (wrap64 ((i : Int) + 1))) q := by
          rw [wi i (by omega)]
          by_cases hvp : vp (p ++ [c]) = true
          · obtain ⟨q, hq⟩ := ih (i + 1) (by omega) (p ++ [c]) hvp (by simp; omega)
            exact ⟨q, by simpa only [hvp, if_true] using hq⟩
          · obtain ⟨q, hq⟩ := ih (i + 1) (by omega) p hv h8
            exact ⟨q, by simpa only [hvp, if_false, Bool.false_eq_true] using hq⟩
        obtain ⟨q, hq1, hq2, hq3⟩ := hnx
        refine ⟨q, hq1, hq2, Ev.step (fun k => by rw [dialtoneref12_Made.l0]) ?_⟩
        simp only [h1, h2, h3, if_true, decide_true]
        refine Ev.step (fun k => by rw [dialtoneref12_Made.j1]) ?_
        have h4 : (0 : Int) ≤ i := by omega
        have h5 : 0 + p.length < 3518437208883 := by omega
        have h6 : p.length < 3518437208883 := by omega
        simp only [if_true, Option.bind_some, List.length_nil, List.nil_append, h1, h4, h5, h6, rd23 l i hil]
        refine Ev.bind hev ?_
        refine Ev.bind (rvalid_ev (p ++ [c]) (by simp; omega) hsm) ?_
        exact hq3
      · have h3 : ¬ ((p.length : Int) < 8) := by omega
        refine ⟨p, hv, h8, Ev.step (fun k => by rw [dialtoneref12_Made.l0]) ?_⟩
        simp only [h1, h2, h3, if_true, decide_false]
        refine Ev.step (fun k => by rw [dialtoneref12_Made.j1]) ?_
        simp only [Bool.false_eq_true, if_false]
        exact Ev.now _
    · have h2 : ¬ ((i : Int) < 16) := by omega
      refine ⟨p, hv, h8, Ev.step (fun k => by rw [dialtoneref12_Made.l0]) ?_⟩
      simp only [h1, h2, if_true, if_false]
      refine Ev.step (fun k => by rw [dialtoneref12_Made.j1]) ?_
      simp only [Bool.false_eq_true, if_false]
      exact Ev.now _
theorem made_ev (l : List S23) (hl : Ints3 l) : ∃ p, vp p = true ∧ p.length ≤ 8 ∧ Ev (fun k => dialtoneref12_Made.f k l) p := by
  obtain ⟨p, h1, h2, h3⟩ := made_from l hl l.length 0 (by omega) [] (by decide) (by decide)
  exact ⟨p, h1, h2, by simpa [dialtoneref12_Made.f] using h3⟩
theorem number_ev (p : List S29) (hv : vp p = true) (which n : Int) (hw : J64 which) (hn : J64 n) : ∃ m : Nat, m ≤ 99999999 ∧ Ev (fun k => dialtoneref12_Number.f k p which n) (m : Int) := by
  have h20 := vp_len hv
  obtain ⟨r0, l0, e0⟩ := pick_lt n hn 100000000 (by decide)
  have e0' : dialtoneref12_pick.f n 100000000 = some (r0 : Int) := e0
  have hany : Ev (fun k => dialtoneref12_Number.j0 k p which n true) (r0 : Int) := by
    refine Ev.step (fun k => by rw [dialtoneref12_Number.j0]) ?_
    simp only [if_true, e0', Option.bind_some]
    exact Ev.now _
  unfold dialtoneref12_Number.f
  by_cases hp : p.length = 0
  · have hp' : (p.length : Int) = 0 := by omega
    simp only [hp', if_true]
    exact ⟨r0, by omega, hany⟩
  · have hp' : ¬ (p.length : Int) = 0 := by omega
    obtain ⟨r1, l1, e1⟩ := pick_lt which hw 16 (by decide)
    have e1' : dialtoneref12_pick.f which 16 = some (r1 : Int) := e1
    simp only [hp', if_false, e1', Option.bind_some]
    by_cases h15 : r1 = 15
    · have : ((r1 : Int) == 15) = true := by rw [h15]; rfl
      simp only [this]
      exact ⟨r0, by omega, hany⟩
    · have : ((r1 : Int) == 15) = false := by rw [beq_eq_false_iff_ne]; omega
      simp only [this]
      obtain ⟨i, l2, e2⟩ := pick_lt (wrap64 (Int.tdiv which 16)) (third which hw 16 (.inr rfl)) p.length (by omega)
      obtain ⟨r3, l3, e3⟩ := pick_lt which hw 3 (by decide)
      have e3' : dialtoneref12_pick.f which 3 = some (r3 : Int) := e3
      have hph := ph_of r3 l3
      have hc := vp_one hv (List.getElem_mem l2)
      have hr := hi_le hc (wrap64 (1 + (r3 : Int)))
      have hev := rrange_ev p hv i l2 (wrap64 (1 + (r3 : Int))) hph.1
      obtain ⟨r4, l4, e4⟩ := pick_lt n hn (hi p[i] (wrap64 (1 + (r3 : Int))) - lo p[i]) (by omega)
      refine ⟨lo p[i] + r4, by omega, ?_⟩
      refine Ev.step (fun k => by rw [dialtoneref12_Number.j0]) ?_
      simp only [Bool.false_eq_true, if_false, e2, e3', Option.bind_some]
      refine Ev.bind hev ?_
      have hd : wrap64 ((hi p[i] (wrap64 (1 + (r3 : Int))) : Int) - (lo p[i] : Int)) = ((hi p[i] (wrap64 (1 + (r3 : Int))) - lo p[i] : Nat) : Int) := by
        generalize hi p[i] (wrap64 (1 + (r3 : Int))) = H at *
        generalize hi p[i] 2 = H2 at *
        generalize lo p[i] = L at *
        rw [w64 (by omega) (by omega)]; omega
      simp only [hd, e4, Option.bind_some]
      have hs : wrap64 ((lo p[i] : Int) + (r4 : Int)) = ((lo p[i] + r4 : Nat) : Int) := by
        rw [← Int.natCast_add]
        exact wnat _ (by omega)
      simp only [hs]
      exact Ev.now _
end Go.Proofs.YtlmfoblgheepoaaGreatDoor.Pure
end
section
namespace Go.Proofs.YtlmfoblgheepoaaGreatDoor.Pure
open Go.RowKit Go.Proofs.YtlmfoblgheepoaaGreatDoorW.PrintWords Go.Proofs.YtlmfoblgheepoaaGreatDoorW.PrintLast Go.Proofs.YtlmfoblgheepoaaGreatDoorW.PrintMore Go.Proofs.YtlmfoblgheepoaaGreatDoor.Pl
set_option linter.unusedVariables false
set_option linter.unusedSimpArgs false
theorem ents_mem {ph : Int} : ∀ {p : List S29} {i0 : Nat} {e : En}, e ∈ ents ph p i0 ↔ ∃ (i : Nat) (h : i < p.length), (ph ≠ 3 ∧ e = eOld (i0 + i) p[i]) ∨ (ph ≠ 1 ∧ e = eNew (i0 + i) p[i])
  | [], _, _ => by simp [ents]
  | c :: r, i0, e => by
    rw [ents, List.mem_append, ents_mem (p := r)]
    constructor
    · rintro (h | ⟨i, hi, h⟩)
      · refine ⟨0, by simp, ?_⟩
        unfold es at h
        rcases List.mem_append.mp h with h | h
        · split at h
          · rename_i h3; exact .inl ⟨h3, by simpa using List.mem_singleton.mp h⟩
          · cases h
        · split at h
          · rename_i h3; exact .inr ⟨h3, by simpa using List.mem_singleton.mp h⟩
          · cases h
      · refine ⟨i + 1, by simp; omega, ?_⟩
        have e' : i0 + 1 + i = i0 + (i + 1) := by omega
        simpa [e'] using h
    · rintro ⟨i, hi, h⟩
      cases i with
      | zero =>
        left
        unfold es
        rcases h with ⟨h3, h⟩ | ⟨h3, h⟩
        · simp [h3]; left; simpa using h
        · simp [h3]; right; simpa using h
      | succ i =>
        right
        refine ⟨i, by simpa using hi, ?_⟩
        have e' : i0 + 1 + i = i0 + (i + 1) := by omega
        simpa [e'] using h
theorem ents_apt {p : List S29} (hv : vp p = true) (ph : Int) : (ents ph p 0).Pairwise (fun e f => apt e.key f.key = true) := ents_pair (vp_pair hv) (fun c hc => vp_one hv hc)
theorem find_code {p : List S29} (hv : vp p = true) {i : Nat} (hi : i < p.length) {s : D} (h : cn p[i] <+: s) : p.find? (fun c => (cn c).isPrefixOf s) = some p[i] := by
  cases hf : p.find? (fun c => (cn c).isPrefixOf s) with
  | none =>
    have := List.find?_eq_none.mp hf p[i] (List.getElem_mem hi)
    rw [List.isPrefixOf_iff_prefix] at this
    exact absurd h this
  | some c =>
    have h1 := List.find?_some hf
    have h2 := List.mem_of_find?_eq_some hf
    rw [List.isPrefixOf_iff_prefix] at h1
    obtain ⟨j, hj, rfl⟩ := List.mem_iff_getElem.mp h2
    have e1 : eNew (0 + i) p[i] ∈ ents 2 p 0 := ents_mem.mpr ⟨i, hi, .inr ⟨by decide, rfl⟩⟩
    have e2 : eNew (0 + j) p[j] ∈ ents 2 p 0 := ents_mem.mpr ⟨j, hj, .inr ⟨by decide, rfl⟩⟩
    have := pair_hit (ents_apt hv 2) e1 e2 (d := s) h h1
    have hij : ((0 + i : Nat) : Int) = ((0 + j : Nat) : Int) := congrArg En.idx this
    have : i = j := by omega
    subst this; rfl
theorem wS_none {p : List S29} {m : Nat} {ph : Int} (h : p.find? (fun c => (cn c).isPrefixOf (eightK 8 m)) = none) : wS p m ph = ([], 120) := by
  unfold wS wgo; rw [h]
theorem wS_some {p : List S29} {m : Nat} {ph : Int} {c : S29} (h : p.find? (fun c => (cn c).isPrefixOf (eightK 8 m)) = some c) : wS p m ph = wC c (eightK 8 m) ph := by
  unfold wS wgo; rw [h]
theorem wC_cases (c : S29) (s : D) (ph : Int) : (ph ≠ 1 ∧ wC c s ph = (s, 0)) ∨ (ph = 1 ∧ z48 ((s.drop (cn c).length).take (cutOf c - (cn c).length)) = true ∧ wC c s ph = (co c ++ s.drop (cutOf c), 0)) ∨ (ph = 1 ∧ wC c s ph = ([], 120)) := by
  unfold wC
  by_cases h : ph = 1
  · by_cases h2 : z48 ((s.drop (cn c).length).take (cutOf c - (cn c).length)) = true
    · exact .inr (.inl ⟨h, h2, by rw [if_pos h, if_pos h2]⟩)
    · exact .inr (.inr ⟨h, by rw [if_pos h, if_neg h2]⟩)
  · exact .inl ⟨h, by rw [if_neg h]⟩
theorem z48_rep {l : D} (h : z48 l = true) : l = List.replicate l.length 48 := by
  unfold z48 at h
  rw [List.all_eq_true] at h
  exact List.eq_replicate_iff.mpr ⟨rfl, fun x hx => by simpa using h x hx⟩
theorem pre_drop {a s : D} (h : a <+: s) : a ++ s.drop a.length = s := by
  obtain ⟨t, rfl⟩ := h; simp
theorem split3 (s : D) (i j : Nat) (h : i ≤ j) : s.drop i = (s.drop i).take (j - i) ++ s.drop j := by
  have := (List.take_append_drop (j - i) (s.drop i)).symm
  rw [List.drop_drop] at this
  have e : i + (j - i) = j := by omega
  rw [e] at this; exact this
theorem old_split {c : S29} (hc : One c) {s : D} (hs : s.length = 8) (hp : cn c <+: s) (hz : z48 ((s.drop (cn c).length).take (cutOf c - (cn c).length)) = true) : (cn c ++ List.replicate (zs c) 48) ++ s.drop (cutOf c) = s := by
  have a1 := hc.o1; have a2 := hc.o4; have a3 := hc.n1; have a4 := hc.n5; have a5 := hc.l1; have a6 := hc.l7; have a7 := hc.rm
  have hcut : (cn c).length ≤ cutOf c := by unfold cutOf; omega
  have h1 := z48_rep hz
  have hl : ((s.drop (cn c).length).take (cutOf c - (cn c).length)).length = zs c := by rw [List.length_take, List.length_drop]; unfold cutOf zs; omega
  rw [hl] at h1
  have h2 := split3 s _ _ hcut
  rw [h1] at h2
  rw [List.append_assoc, ← h2]
  exact pre_drop hp
structure Form (p : List S29) (m : Nat) (ph : Int) (f : D) (e : En) : Prop where
  mem : ∀ ph', (ph = 1 → ph' ≠ 3) → (ph ≠ 1 → ph' ≠ 1) → e ∈ ents ph' p 0
  pre : e.key <+: f
  len : (f.length : Int) = e.len
  num : e.st ++ f.drop e.key.length = eightK 8 m
  dig : digs f = true
  old : ph = 1 → e.len ≤ 7
  new : ph ≠ 1 → e.len = 8 ∧ f = eightK 8 m
  idx : e.idx = (p.findIdx (fun c => (cn c).isPrefixOf (eightK 8 m)) : Int)
  i0 : e.idx < p.length
theorem digs_drop {s : D} (h : digs s = true) (n : Nat) : digs (s.drop n) = true := by
  unfold digs at h ⊢; rw [List.all_eq_true] at h ⊢; exact fun x hx => h x (List.mem_of_mem_drop hx)
theorem wS_form {p : List S29} (hv : vp p = true) (m : Nat) (ph : Int) : wS p m ph = ([], 120) ∨ ∃ f e, wS p m ph = (f, 0) ∧ Form p m ph f e := by
  cases hf : p.find? (fun c => (cn c).isPrefixOf (eightK 8 m)) with
  | none => exact .inl (wS_none hf)
  | some c =>
    have h1 := List.find?_some hf
    have hlt : p.findIdx (fun c => (cn c).isPrefixOf (eightK 8 m)) < p.length := by
      rw [List.findIdx_lt_length]; exact ⟨c, List.mem_of_find?_eq_some hf, h1⟩
    have hpi := List.findIdx_getElem (w := hlt)
    rw [List.isPrefixOf_iff_prefix] at hpi
    have hfi := find_code hv hlt hpi
    rw [hf] at hfi
    have hci := Option.some.inj hfi
    rw [wS_some hf]
    have hc := vp_one hv (List.mem_of_find?_eq_some hf)
    rw [List.isPrefixOf_iff_prefix] at h1
    have hs8 : (eightK 8 m).length = 8 := eightK_length 8 m
    rcases wC_cases c (eightK 8 m) ph with ⟨hph, hw⟩ | ⟨hph, hz, hw⟩ | ⟨_, hw⟩
    · right
      refine ⟨_, eNew (0 + p.findIdx (fun c => (cn c).isPrefixOf (eightK 8 m))) c, hw, ⟨fun ph' _ h => ents_mem.mpr ⟨_, hlt, .inr ⟨h hph, by rw [← hci]⟩⟩, h1, by rw [hs8]; rfl, pre_drop h1, eightK_digs 8 m, fun h => absurd h hph, fun _ => ⟨rfl, rfl⟩, by simp [eNew], by simp only [eNew]; omega⟩⟩
    · right
      have a1 := hc.o1; have a2 := hc.o4; have a3 := hc.n1; have a4 := hc.n5; have a5 := hc.l1; have a6 := hc.l7; have a7 := hc.rm
      refine ⟨_, eOld (0 + p.findIdx (fun c => (cn c).isPrefixOf (eightK 8 m))) c, hw, ⟨fun ph' h _ => ents_mem.mpr ⟨_, hlt, .inl ⟨h hph, by rw [← hci]⟩⟩, List.prefix_append _ _, ?_, ?_, ?_, fun _ => hc.l7, fun h => absurd hph h, by simp [eOld], by simp only [eOld]; omega⟩⟩
      · rw [List.length_append, List.length_drop, hs8]; simp only [eOld, cutOf]; omega
      · simp only [eOld, List.drop_left]
        exact old_split hc hs8 h1 hz
      · rw [digs_append, hc.od, digs_drop (eightK_digs 8 m)]; rfl
    · exact .inl hw
theorem eightK_of {m n : Nat} (hm : m ≤ 99999999) (hn : n ≤ 99999999) (h : eightK 8 m = eightK 8 n) : m = n := by
  have := congrArg val h
  rw [val_eightK, val_eightK] at this
  omega
theorem unique {p : List S29} (hv : vp p = true) {m n : Nat} (hm : m ≤ 99999999) (hn : n ≤ 99999999) {ph qh : Int} {f g : D} {e e' : En} (hF : Form p m ph f e) (hG : Form p n qh g e') (h : f <+: g) : m = n ∧ (ph = 1 ↔ qh = 1) ∧ f = g := by
  have m1 := hF.mem 2 (fun _ => by decide) (fun _ => by decide)
  have m2 := hG.mem 2 (fun _ => by decide) (fun _ => by decide)
  have he := pair_hit (ents_apt hv 2) m1 m2 (hF.pre.trans h) hG.pre
  subst he
  have hl : f.length = g.length := by have := hF.len; have := hG.len; omega
  have hfg : f = g := h.eq_of_length hl
  subst hfg
  refine ⟨eightK_of hm hn (by rw [← hF.num, ← hG.num]), ?_, rfl⟩
  have o1 := hF.old; have o2 := hG.old; have n1 := hF.new; have n2 := hG.new
  constructor
  · intro h
    by_cases hq : qh = 1
    · exact hq
    · have := o1 h; have := (n2 hq).1; omega
  · intro h
    by_cases hq : ph = 1
    · exact hq
    · have := o2 h; have := (n1 hq).1; omega
end Go.Proofs.YtlmfoblgheepoaaGreatDoor.Pure
end
