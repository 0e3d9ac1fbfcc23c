/- Pa: part 15 of the proof that the law's row holds: the printed walk of the program's functions, the plain law, the row. -/
import Derived.StillTailTactics
import Derived.Test.YtkfejgdeknemaaaGreatDoorQPa11
import Derived.Test.YtkfejgdeknemaaaGreatDoorQPa13
section
namespace Go.Proofs.YtkfejgdeknemaaaGreatDoor.Fw
open Go.RowKit Go.Shelf Go.Proofs.YtkfejgdeknemaaaGreatDoorW.PrintWords Go.Proofs.YtkfejgdeknemaaaGreatDoorW.PrintLast Go.Proofs.YtkfejgdeknemaaaGreatDoorW.PrintMore Go.Proofs.GRange
attribute [local go_sem] Oper.semAt_some
set_option linter.unusedVariables false
set_option linter.unusedSimpArgs false
section
variable (w : World) (A0 : Option Addr) (c0 : Nat) (l : List S41) (b1 b2 n2 bS b8 b9 bM bR bn : Nat) (C : Int → Option Int)
structure CalG (path used : List Int) (sp su vp vu : Value) (W : World) : Prop where
  s : W.heap[bS]? = some (.cells #[.slice A0 l.length c0] 24 (0, 0))
  r8 : W.heap[b8]? = some (.cells #[.int .i64 0, .slice none 0 0, .slice none 0 0] 31 (0, 0))
  r9 : W.heap[b9]? = some (.cells #[.int .i64 0] 32 (0, 0))
  mo : W.heap[bM]? = some (.cells #[.slice A0 l.length c0, .map (some b1), .map (some b2)] 73 (0, 0))
  rb : W.heap[bR]? = some (.cells #[.int .i64 0, sp, su] 31 (0, 0))
  p : Kd.R (Kd.int .i64) 3 W w.heap.size (fun k => some k ≠ vu.ownBlock ∧ k ≠ bn ∧ k ≠ b1 ∧ k ≠ b2) vp path
  u : Kd.R (Kd.int .i64) 3 W w.heap.size (fun k => some k ≠ vp.ownBlock ∧ k ≠ bn ∧ k ≠ b1 ∧ k ≠ b2) vu used
  con : ConM W b2 n2 C
  bel : Below w.heap.size w W
abbrev Cal (path used : List Int) (vp vu : Value) (W : World) : Prop := CalG w A0 c0 l b1 b2 n2 bS b8 b9 bM bR bn C path used vp vu vp vu W
end
section
variable {w : World} {A0 : Option Addr} {c0 : Nat} {l : List S41} {b1 b2 n2 bS b8 b9 bM bR bn : Nat} {C : Int → Option Int} {path used : List Int} {sp su vp vu : Value} {W W' : World}
theorem CalG.kept (h : CalG w A0 c0 l b1 b2 n2 bS b8 b9 bM bR bn C path used sp su vp vu W) {k : Nat} (hg : W.grownBy W' (some k)) (hk : w.heap.size ≤ k) (hne : bS ≠ k ∧ b8 ≠ k ∧ b9 ≠ k ∧ bM ≠ k ∧ bR ≠ k ∧ b2 ≠ k)
    (hp : some k ≠ vp.ownBlock) (hu : some k ≠ vu.ownBlock) : CalG w A0 c0 l b1 b2 n2 bS b8 b9 bM bR bn C path used sp su vp vu W' := by
  obtain ⟨h1, h2, h3, h4, h5, h6⟩ := hne
  have bk : ∀ {g : Nat} {o : Obj}, g ≠ k → W.heap[g]? = some o → W'.heap[g]? = some o := fun hn hh => (hg.block _ (blk_lt hh) (by simpa using hn)).trans hh
  refine ⟨bk h1 h.s, bk h2 h.r8, bk h3 h.r9, bk h4 h.mo, bk h5 h.rb, ?_, ?_, h.con.kept hg (by simpa using h6), h.bel.grown hg h.bel.size (fun j e => by cases e; exact hk)⟩
  · exact Kd.R_grown1 h.p rfl hg hp
  · exact Kd.R_grown1 h.u rfl hg hu
end
section
variable (w : World) (A0 : Option Addr) (c0 : Nat) (l : List S41) (b1 b2 n2 bS b8 b9 bM bR bn : Nat) (C : Int → Option Int)
def CalE (path used : List Int) (W : World) : Prop := ∃ vp vu, Cal w A0 c0 l b1 b2 n2 bS b8 b9 bM bR bn C path used vp vu W
def RGo (cn : Int → Option Int) (res : Int × List Int × List Int) (s : St) (W : World) : Prop :=
  ∃ path used, used.length = s.1 ∧ s.1 ≤ 5 ∧ path.length = s.1 + 1 ∧ path.getLast? = some s.2.1 ∧ resGo cn C l (6 - s.1) path used s.2.1 = res ∧ CalE w A0 c0 l b1 b2 n2 bS b8 b9 bM bR bn C path used W
def RGo' (cn : Int → Option Int) (res : Int × List Int × List Int) (s : St) (W : World) : Prop := RGo w A0 c0 l b1 b2 n2 bS b8 b9 bM bR bn C cn res (s.1 + 1, toOf l s.2.2, 0) W
def RIn (cn : Int → Option Int) (res : Int × List Int × List Int) (s : St) (W : World) : Prop := cn s.2.1 = some s.2.2 ∧ RGo w A0 c0 l b1 b2 n2 bS b8 b9 bM bR bn C cn res s W
def RFin (res : Int × List Int × List Int) (W : World) : Prop :=
  ∃ path used x, path.length ≤ 6 ∧ path.getLast? = some x ∧ In64 x ∧ res = (max ((C x).getD 0) 1, path, used) ∧ CalE w A0 c0 l b1 b2 n2 bS b8 b9 bM bR bn C path used W
def Done (r : Int × List Int × List Int) (W : World) : Prop :=
  ∃ vp vu, W.heap[b8]? = some (.cells #[.int .i64 r.1, vp, vu] 31 (0, 0)) ∧ W.heap[b9]? = some (.cells #[.int .i64 0] 32 (0, 0)) ∧
    Kd.R (Kd.int .i64) 3 W w.heap.size (fun k_ => some k_ ≠ vu.ownBlock) vp r.2.1 ∧ Kd.R (Kd.int .i64) 3 W w.heap.size (fun k_ => some k_ ≠ vp.ownBlock) vu r.2.2 ∧ Below w.heap.size w W
def IxR (r : Int × List Int × List Int) : Code → World → Prop
  | .ret, W => Done w b8 b9 r W
  | _, _ => False
end
section
variable {w : World} {A0 : Option Addr} {c0 : Nat} {l : List S41} {b1 b2 n2 bS b8 b9 bM bR bn : Nat} {C : Int → Option Int} {path used : List Int} {sp su vp vu : Value} {W W' : World}
theorem not_own_bn (h : CalG w A0 c0 l b1 b2 n2 bS b8 b9 bM bR bn C path used sp su vp vu W) : some bn ≠ vp.ownBlock ∧ some bn ≠ vu.ownBlock :=
  ⟨fun e => (h.p.1 bn e.symm).2.1 rfl, fun e => (h.u.1 bn e.symm).2.1 rfl⟩
theorem CalE.byN (h : CalE w A0 c0 l b1 b2 n2 bS b8 b9 bM bR bn C path used W) (hg : W.grownBy W' (some bn)) (hk : w.heap.size ≤ bn) (hne : bS ≠ bn ∧ b8 ≠ bn ∧ b9 ≠ bn ∧ bM ≠ bn ∧ bR ≠ bn ∧ b2 ≠ bn) : CalE w A0 c0 l b1 b2 n2 bS b8 b9 bM bR bn C path used W' := by
  obtain ⟨vp, vu, h⟩ := h
  exact ⟨vp, vu, h.kept hg hk hne (not_own_bn h).1 (not_own_bn h).2⟩
theorem CalG.below (h : CalG w A0 c0 l b1 b2 n2 bS b8 b9 bM bR bn C path used sp su vp vu W) (hb : Below W.heap.size W W') : CalG w A0 c0 l b1 b2 n2 bS b8 b9 bM bR bn C path used sp su vp vu W' :=
  ⟨blk_below h.s hb, blk_below h.r8 hb, blk_below h.r9 hb, blk_below h.mo hb, blk_below h.rb hb, Kd.R_below h.p hb, Kd.R_below h.u hb, h.con.below hb, below_step h.bel hb⟩
theorem to_in (h : ∀ s ∈ l, In64 s.f2) (i : Int) : In64 (toOf l i) := by
  unfold toOf
  by_cases hi : i.toNat < l.length
  · rw [show rd_T41 l i = l[i.toNat] by unfold rd_T41; simp [hi]; try rfl]
    exact h _ (List.getElem_mem hi)
  · rw [show (rd_T41 l i).f2 = 0 by unfold rd_T41; simp [hi]; try rfl]
    exact in64_zero
theorem Rec_and {B : Nat} {I J : World → Prop} (h : Rec B I) (k : Rec B J) : Rec B (fun W => I W ∧ J W) := fun W l r r' hk hh hl => ⟨h W l r r' hk hh.1 hl, k W l r r' hk hh.2 hl⟩
theorem own_loop {v : Value} {base : Nat} {ok : Nat → Prop} {xs : List Int} (h : Kd.R (Kd.int .i64) 3 W base ok v xs) {k : Nat} {r : Loop} (hk : W.heap[k]? = some (.loop r)) : some k ≠ v.ownBlock := fun e => by
  obtain ⟨cells, hc⟩ := Kd.R_typed h k e.symm
  rw [hk] at hc
  cases hc
theorem CalE.rec {B : Nat} (hB : w.heap.size ≤ B) (h1 : bS < B) (h2 : b8 < B) (h3 : b9 < B) (h4 : bM < B) (h5 : bR < B) (h6 : b2 < B) : Rec B (CalE w A0 c0 l b1 b2 n2 bS b8 b9 bM bR bn C path used) := by
  intro W k r r' hk ⟨vp, vu, h⟩ hl
  exact ⟨vp, vu, h.kept (grownBy_putObj' W k (.loop r')) (by omega) ⟨by omega, by omega, by omega, by omega, by omega, by omega⟩ (own_loop h.p hl) (own_loop h.u hl)⟩
theorem Done.shut {r : Int × List Int × List Int} {D : Nat} (h : Done w b8 b9 r W) (hk : W.heap[D]? = some (.deferred (some []))) (hD : w.heap.size ≤ D) : Done w b8 b9 r (W.putObj D (.deferred none)) := by
  obtain ⟨vp, vu, h8, h9, hp, hu, hb⟩ := h
  have hg := grownBy_putObj' W D (.deferred none)
  have ne : ∀ {g t : Nat} {cs : Array Value}, W.heap[g]? = some (.cells cs t (0, 0)) → g ≠ D := fun hh e => by rw [e, hk] at hh; cases hh
  have bk : ∀ {g t : Nat} {cs : Array Value}, W.heap[g]? = some (.cells cs t (0, 0)) → (W.putObj D (.deferred none)).heap[g]? = some (.cells cs t (0, 0)) := fun hh => (hg.block _ (blk_lt hh) (by simpa using ne hh)).trans hh
  have ow : ∀ {v : Value} {ok : Nat → Prop} {xs : List Int}, Kd.R (Kd.int .i64) 3 W w.heap.size ok v xs → some D ≠ v.ownBlock := fun h e => by
    obtain ⟨cells, hc⟩ := Kd.R_typed h D e.symm
    rw [hk] at hc; cases hc
  exact ⟨vp, vu, bk h8, bk h9, Kd.R_grown1 hp rfl hg (ow hp), Kd.R_grown1 hu rfl hg (ow hu), hb.grown hg hb.size (fun j e => by cases e; exact hD)⟩
theorem Done.below {r : Int × List Int × List Int} (h : Done w b8 b9 r W) (hb : Below W.heap.size W W') : Done w b8 b9 r W' := by
  obtain ⟨vp, vu, h8, h9, hp, hu, hbl⟩ := h
  exact ⟨vp, vu, blk_below h8 hb, blk_below h9 hb, Kd.R_below hp hb, Kd.R_below hu hb, below_step hbl hb⟩
theorem Done.rec {B : Nat} {r : Int × List Int × List Int} (hB : w.heap.size ≤ B) (h2 : b8 < B) (h3 : b9 < B) : Rec B (Done w b8 b9 r) := by
  intro W k q q' hk ⟨vp, vu, h8, h9, hp, hu, hb⟩ hl
  have hg := grownBy_putObj' W k (.loop q')
  have bk : ∀ {g : Nat} {o : Obj}, g ≠ k → W.heap[g]? = some o → (W.putObj k (.loop q')).heap[g]? = some o := fun hn hh => (hg.block _ (blk_lt hh) (by simpa using hn)).trans hh
  exact ⟨vp, vu, bk (by omega) h8, bk (by omega) h9, Kd.R_grown1 hp rfl hg (own_loop hp hl), Kd.R_grown1 hu rfl hg (own_loop hu hl), hb.grown hg hb.size (fun j e => by cases e; omega)⟩
theorem base_rec {n1 bm : Nat} {c : Nat} {G : Int → Int → Option Int} {x : Int} {B : Nat} (hB : w.heap.size ≤ B) (h1 : bm < B) (h2 : bn < B) (h3 : b1 < B) (h4 : b2 < B) : Rec B (Base w A0 c l b1 b2 n1 n2 bm bn G C x) := by
  intro W k q q' hk h hl
  have hg := grownBy_putObj' W k (.loop q')
  have bk : ∀ {g : Nat} {o : Obj}, g ≠ k → W.heap[g]? = some o → (W.putObj k (.loop q')).heap[g]? = some o := fun hn hh => (hg.block _ (blk_lt hh) (by simpa using hn)).trans hh
  exact ⟨bk (by omega) h.bm, bk (by omega) h.bn, h.set.kept hg (by simp; omega), h.con.kept hg (by simp; omega), h.bel.grown hg h.bel.size (fun j e => by cases e; omega)⟩
theorem RGo.rec {cn : Int → Option Int} {res : Int × List Int × List Int} {s : St} {B : Nat} (hB : w.heap.size ≤ B) (h1 : bS < B) (h2 : b8 < B) (h3 : b9 < B) (h4 : bM < B) (h5 : bR < B) (h6 : b2 < B) : Rec B (RGo w A0 c0 l b1 b2 n2 bS b8 b9 bM bR bn C cn res s) := by
  intro W k r r' hk ⟨p, u, g1, g2, g3, g4, g5, hE⟩ hl
  exact ⟨p, u, g1, g2, g3, g4, g5, CalE.rec hB h1 h2 h3 h4 h5 h6 W k r r' hk hE hl⟩
theorem RFin.rec {res : Int × List Int × List Int} {B : Nat} (hB : w.heap.size ≤ B) (h1 : bS < B) (h2 : b8 < B) (h3 : b9 < B) (h4 : bM < B) (h5 : bR < B) (h6 : b2 < B) : Rec B (RFin w A0 c0 l b1 b2 n2 bS b8 b9 bM bR bn C res) := by
  intro W k r r' hk ⟨p, u, x, g1, g2, g3, g4, hE⟩ hl
  exact ⟨p, u, x, g1, g2, g3, g4, CalE.rec hB h1 h2 h3 h4 h5 h6 W k r r' hk hE hl⟩
theorem IxR.rec {res : Int × List Int × List Int} {B : Nat} (hB : w.heap.size ≤ B) (h2 : b8 < B) (h3 : b9 < B) (c : Code) : Rec B (IxR w b8 b9 res c) := by
  intro W k r r' hk h hl
  cases c <;> first | exact Done.rec hB h2 h3 W k r r' hk h hl | exact h.elim
theorem RGo.next {cn : Int → Option Int} {res : Int × List Int × List Int} {k : Nat} {x i : Int} (h : RGo w A0 c0 l b1 b2 n2 bS b8 b9 bM bR bn C cn res (k, x, i) W) (hx : In64 x) (hg : W.grownBy W' (some bn)) (hk : w.heap.size ≤ bn) (hne : bS ≠ bn ∧ b8 ≠ bn ∧ b9 ≠ bn ∧ bM ≠ bn ∧ bR ≠ bn ∧ b2 ≠ bn) :
    match cn x with | some j => RIn w A0 c0 l b1 b2 n2 bS b8 b9 bM bR bn C cn res (k, x, j) W' | none => RFin w A0 c0 l b1 b2 n2 bS b8 b9 bM bR bn C res W' := by
  obtain ⟨p, u, g1, g2, g3, g4, g5, hE⟩ := h
  dsimp only at g1 g2 g3 g4 g5
  have hE' := hE.byN hg hk hne
  cases hc : cn x with
  | some j => exact ⟨hc, p, u, g1, g2, g3, g4, g5, hE'⟩
  | none =>
    obtain ⟨m, hm⟩ : ∃ m, 6 - k = m + 1 := ⟨5 - k, by omega⟩
    rw [hm] at g5
    simp only [resGo, hc] at g5
    exact ⟨p, u, x, by omega, g4, hx, g5.symm, hE'⟩
end
section
variable (w : World) (A0 : Option Addr) (c0 : Nat) (l : List S41) (b1 b2 n1 n2 bS b8 b9 bM bR bm bn : Nat) (G : Int → Int → Option Int) (C : Int → Option Int) (x : Int) (W0 : World)
def Mid (path used : List Int) (sp su vp vu : Value) (W : World) : Prop :=
  CalG w A0 c0 l b1 b2 n2 bS b8 b9 bM bR bn C path used sp su vp vu W ∧ Base w A0 c0 l b1 b2 n1 n2 bm bn G C x W ∧ Sees W0 W
end
section
variable {w : World} {A0 : Option Addr} {c0 : Nat} {l : List S41} {b1 b2 n1 n2 bS b8 b9 bM bR bm bn : Nat} {G : Int → Int → Option Int} {C : Int → Option Int} {x : Int} {W0 : World} {path used : List Int} {sp su vp vu : Value} {W W' : World}
theorem Mid.below (h : Mid w A0 c0 l b1 b2 n1 n2 bS b8 b9 bM bR bm bn G C x W0 path used sp su vp vu W) (hb : Below W.heap.size W W') : Mid w A0 c0 l b1 b2 n1 n2 bS b8 b9 bM bR bm bn G C x W0 path used sp su vp vu W' :=
  ⟨h.1.below hb, h.2.1.below hb, h.2.2.trans (Sees.below hb)⟩
theorem own_type {v : Value} {base : Nat} {ok : Nat → Prop} {xs : List Int} (h : Kd.R (Kd.int .i64) 3 W base ok v xs) {g t : Nat} {cs : Array Value} (hg : W.heap[g]? = some (.cells cs t (0, 0))) (ht : t ≠ 3) : some g ≠ v.ownBlock := fun e => by
  obtain ⟨cells, hc⟩ := Kd.R_typed h g e.symm
  rw [hg] at hc
  injection hc with hc
  injection hc with _ hc
  exact ht hc
theorem stays {v v1 : Value} {base : Nat} {ou : Value} {us : List Int} (hu : Kd.R (Kd.int .i64) 3 W base (fun k => some k ≠ v.ownBlock ∧ k ≠ bn ∧ k ≠ b1 ∧ k ≠ b2) ou us) (hg : W.grownBy W' v.ownBlock)
    (hat : v1.ownBlock = v.ownBlock ∨ ∃ b, v1.ownBlock = some b ∧ W.heap.size ≤ b) : Kd.R (Kd.int .i64) 3 W' base (fun k => some k ≠ v1.ownBlock ∧ k ≠ bn ∧ k ≠ b1 ∧ k ≠ b2) ou us := by
  refine Kd.R_mono (Kd.R_grown2 (Kd.R_bound hu) rfl hg (fun k hk e => (hu.1 k e.symm).1 hk.symm)) ?_
  rintro k ⟨⟨h1, h2⟩, h3, h4, _⟩
  refine ⟨fun e => ?_, h2⟩
  rcases hat with h | ⟨b, h, hb⟩
  · exact h1 (e.trans h)
  · rw [h] at e
    injection e with e
    omega
theorem rest_row {v : Value} {base : Nat} {ok : Nat → Prop} {xs : List Int} (hR : Kd.R (Kd.int .i64) 3 W base ok v xs) (hok : ∀ k, ok k → k ≠ bn ∧ k ≠ b1 ∧ k ≠ b2) (hg : W.grownBy W' v.ownBlock) (hB : Base w A0 c0 l b1 b2 n1 n2 bm bn G C x W) (hb : Below w.heap.size w W') :
    Base w A0 c0 l b1 b2 n1 n2 bm bn G C x W' ∧ ConM W' b2 n2 C ∧ Sees W W' ∧ ∀ {g t : Nat} {cs : Array Value}, t ≠ 3 → W.heap[g]? = some (.cells cs t (0, 0)) → W'.heap[g]? = some (.cells cs t (0, 0)) := by
  have bk : ∀ {g t : Nat} {cs : Array Value}, t ≠ 3 → W.heap[g]? = some (.cells cs t (0, 0)) → W'.heap[g]? = some (.cells cs t (0, 0)) := fun ht hh => (hg.block _ (blk_lt hh) (own_type hR hh ht)).trans hh
  have hc := hB.con.kept hg (fun e => (hok _ (hR.1 b2 e.symm)).2.2 rfl)
  refine ⟨⟨bk (by decide) hB.bm, (hg.block _ (blk_lt hB.bn) (fun e => (hok _ (hR.1 bn e.symm)).1 rfl)).trans hB.bn, hB.set.kept hg (fun e => (hok _ (hR.1 b1 e.symm)).2.1 rfl), hc, hb⟩, hc, ?_, bk⟩
  refine Sees.grown hg (fun k o hr hk => .inl ?_)
  obtain ⟨cells, hcl⟩ := Kd.R_typed hR k hr
  rw [hk] at hcl
  injection hcl with hcl
  rw [hcl]; rfl
theorem Mid.put (h : Mid w A0 c0 l b1 b2 n1 n2 bS b8 b9 bM bR bm bn G C x W0 path used sp su vp vu W) (hne : bS ≠ bR ∧ b8 ≠ bR ∧ b9 ≠ bR ∧ bM ≠ bR ∧ b1 ≠ bR ∧ b2 ≠ bR ∧ bm ≠ bR ∧ bn ≠ bR) (hge : w.heap.size ≤ bR) (i : Nat) (v sp' su' : Value)
    (e : (#[.int .i64 0, sp, su] : Array Value).setIfInBounds i v = #[.int .i64 0, sp', su']) : Mid w A0 c0 l b1 b2 n1 n2 bS b8 b9 bM bR bm bn G C x W0 path used sp' su' vp vu (W.setCell ⟨bR, i, none⟩ v) := by
  obtain ⟨h1, h2, h3, h4, h5, h6, h7, h8⟩ := hne
  obtain ⟨hC, hB, hS⟩ := h
  have hb := below_set (j := i) (v := v) hC.bel hge
  have hc := hC.con.setCell (a := ⟨bR, i, none⟩) h6 v
  exact ⟨⟨blk_far hC.s h1 _, blk_far hC.r8 h2 _, blk_far hC.r9 h3 _, blk_far hC.mo h4 _, blk_put hC.rb i v e, Kd.R_mono (Kd.R_far (p := ⟨bR, i, none⟩) (Kd.R_types hC.p hC.rb (by decide)) (fun _ hk => hk.2) v) (fun _ hk => hk.1), Kd.R_mono (Kd.R_far (p := ⟨bR, i, none⟩) (Kd.R_types hC.u hC.rb (by decide)) (fun _ hk => hk.2) v) (fun _ hk => hk.1), hc, hb⟩,
    ⟨blk_far hB.bm h7 _, blk_far hB.bn h8 _, hB.set.setCell (a := ⟨bR, i, none⟩) h5 v, hc, hb⟩, hS.trans (Sees.setCell _ _ _)⟩
theorem Mid.appP (h : Mid w A0 c0 l b1 b2 n1 n2 bS b8 b9 bM bR bm bn G C x W0 path used sp su vp vu W) {path' : List Int} {v1 : Value} (ho : Kd.R (Kd.int .i64) 3 W' w.heap.size (fun k => some k ≠ vu.ownBlock ∧ k ≠ bn ∧ k ≠ b1 ∧ k ≠ b2) v1 path') (hb : Below w.heap.size w W')
    (hg : W.grownBy W' vp.ownBlock) (hat : v1.ownBlock = vp.ownBlock ∨ ∃ b, v1.ownBlock = some b ∧ W.heap.size ≤ b) : Mid w A0 c0 l b1 b2 n1 n2 bS b8 b9 bM bR bm bn G C x W0 path' used sp su v1 vu W' := by
  obtain ⟨hC, hB, hS⟩ := h
  obtain ⟨hB', hc, hS', bk⟩ := rest_row hC.p (fun k hk => hk.2) hg hB hb
  exact ⟨⟨bk (by decide) hC.s, bk (by decide) hC.r8, bk (by decide) hC.r9, bk (by decide) hC.mo, bk (by decide) hC.rb, ho, stays hC.u hg hat, hc, hb⟩, hB', hS.trans hS'⟩
theorem Mid.appU (h : Mid w A0 c0 l b1 b2 n1 n2 bS b8 b9 bM bR bm bn G C x W0 path used sp su vp vu W) {used' : List Int} {v1 : Value} (ho : Kd.R (Kd.int .i64) 3 W' w.heap.size (fun k => some k ≠ vp.ownBlock ∧ k ≠ bn ∧ k ≠ b1 ∧ k ≠ b2) v1 used') (hb : Below w.heap.size w W')
    (hg : W.grownBy W' vu.ownBlock) (hat : v1.ownBlock = vu.ownBlock ∨ ∃ b, v1.ownBlock = some b ∧ W.heap.size ≤ b) : Mid w A0 c0 l b1 b2 n1 n2 bS b8 b9 bM bR bm bn G C x W0 path used' sp su vp v1 W' := by
  obtain ⟨hC, hB, hS⟩ := h
  obtain ⟨hB', hc, hS', bk⟩ := rest_row hC.u (fun k hk => hk.2) hg hB hb
  exact ⟨⟨bk (by decide) hC.s, bk (by decide) hC.r8, bk (by decide) hC.r9, bk (by decide) hC.mo, bk (by decide) hC.rb, stays hC.p hg hat, ho, hc, hb⟩, hB', hS.trans hS'⟩
theorem lit_row (y : Int) (h : Mid w A0 c0 l b1 b2 n1 n2 bS b8 b9 bM bR bm bn G C x W0 path used sp su vp vu W) :
    Mid w A0 c0 l b1 b2 n1 n2 bS b8 b9 bM bR bm bn G C x W0 path used sp su vp vu (W.alloc (.cells #[.int .i64 y] 3)) ∧ Kd.R (Kd.int .i64) 3 (W.alloc (.cells #[.int .i64 y] 3)) w.heap.size (fun _ => True) (.slice (some ⟨W.heap.size, 0, none⟩) 1 1) [y] ∧
      some W.heap.size ≠ vp.ownBlock ∧ some W.heap.size ≠ vu.ownBlock := by
  refine ⟨h.below (below_alloc (Below.refl _ _) _), ?_, fun e => ?_, fun e => ?_⟩
  · exact Kd.R_of_own (own_lit_of (enc := Value.int .i64) W w.heap.size 3 [y] (below_size h.1.bel) (by simp)) (fun _ _ => trivial)
  · exact absurd (Kd.R_lt h.1.p _ e.symm) (Nat.lt_irrefl _)
  · exact absurd (Kd.R_lt h.1.u _ e.symm) (Nat.lt_irrefl _)
theorem mid_held (h : Mid w A0 c0 l b1 b2 n1 n2 bS b8 b9 bM bR bm bn G C x W0 path used sp su vp vu W) : W.cell? ⟨bR, 1, none⟩ = some sp ∧ W.cell? ⟨bR, 2, none⟩ = some su := ⟨(blk_cell h.1.rb 1).trans rfl, (blk_cell h.1.rb 2).trans rfl⟩
theorem mid_lt (h : Mid w A0 c0 l b1 b2 n1 n2 bS b8 b9 bM bR bm bn G C x W0 path used sp su vp vu W) : bn < W.heap.size ∧ b1 < W.heap.size ∧ b2 < W.heap.size :=
  ⟨blk_lt h.2.1.bn, by obtain ⟨F, hM, _⟩ := h.2.1.set; exact hM.lt, by obtain ⟨F, hM, _⟩ := h.2.1.con; exact hM.lt⟩
theorem mid_fresh (h : Mid w A0 c0 l b1 b2 n1 n2 bS b8 b9 bM bR bm bn G C x W0 path used sp su vp vu W) : ∀ k, W.heap.size ≤ k → some k ≠ vu.ownBlock ∧ k ≠ bn ∧ k ≠ b1 ∧ k ≠ b2 := fun k hk => by
  obtain ⟨h1, h2, h3⟩ := mid_lt h
  exact ⟨fun e => by have := Kd.R_lt h.1.u k e.symm; omega, by omega, by omega, by omega⟩
theorem mid_freshU (h : Mid w A0 c0 l b1 b2 n1 n2 bS b8 b9 bM bR bm bn G C x W0 path used sp su vp vu W) : ∀ k, W.heap.size ≤ k → some k ≠ vp.ownBlock ∧ k ≠ bn ∧ k ≠ b1 ∧ k ≠ b2 := fun k hk => by
  obtain ⟨h1, h2, h3⟩ := mid_lt h
  exact ⟨fun e => by have := Kd.R_lt h.1.p k e.symm; omega, by omega, by omega, by omega⟩
end
theorem results_11 (tmps : Array Value) (w : World) (g g' : Nat) (a b c d : Value)
    (hp : tmps.getD 8 undef = .pointer (some ⟨g, 0, none⟩)) (hp' : tmps.getD 9 undef = .pointer (some ⟨g', 0, none⟩)) (hg : w.heap[g]? = some (.cells #[a, b, c] 31 (0, 0))) (hg' : w.heap[g']? = some (.cells #[d] 32 (0, 0))) :
    (results Tryz.f11 tmps).run Tryz.prog w = .ok (.tuple #[.agg #[a, b, c], d]) w := by
  have h1 : tmps[8]?.getD undef = .pointer (some ⟨g, 0, none⟩) := by simpa using hp
  have h2 : tmps[9]?.getD undef = .pointer (some ⟨g', 0, none⟩) := by simpa using hp'
  have h3 : w.cell? ⟨g', 0, none⟩ = some d := (blk_cell hg' 0).trans rfl
  have h4 : (loadVar 32 ⟨g', 0, none⟩).run Tryz.prog w = .ok d w := by
    simp [loadVar, go_sem, h3]
  simp [results, h1, h2, h4, asAddr, run_loadVar_row w g 31 31 #[a, b, c] (0, 0) _ hg Tryz.underlying31 rfl (by kernel_rfl)]
abbrev put11 (W : World) (b8 b9 : Nat) (a v u d : Value) : World := (((W.setCell ⟨b8, 0, none⟩ a).setCell ⟨b8, 1, none⟩ v).setCell ⟨b8, 2, none⟩ u).setCell ⟨b9, 0, none⟩ d
theorem put11_8 {W : World} {b8 b9 : Nat} {x y z : Value} (h8 : W.heap[b8]? = some (.cells #[x, y, z] 31 (0, 0))) (hne : b8 ≠ b9) (a v u d : Value) : (put11 W b8 b9 a v u d).heap[b8]? = some (.cells #[a, v, u] 31 (0, 0)) :=
  blk_far (blk_put (blk_put (blk_put h8 0 a rfl) 1 v rfl) 2 u rfl) hne _
theorem put11_9 {W : World} {b8 b9 : Nat} {q : Value} (h9 : W.heap[b9]? = some (.cells #[q] 32 (0, 0))) (hne : b8 ≠ b9) (a v u d : Value) : (put11 W b8 b9 a v u d).heap[b9]? = some (.cells #[d] 32 (0, 0)) :=
  blk_put (blk_far (blk_far (blk_far h9 (Ne.symm hne) _) (Ne.symm hne) _) (Ne.symm hne) _) 0 _ rfl
theorem put11_R {W : World} {b8 b9 base : Nat} {x y z q : Value} {ok : Nat → Prop} {vv : Value} {xs : List Int} (hR : Kd.R (Kd.int .i64) 3 W base ok vv xs) (h8 : W.heap[b8]? = some (.cells #[x, y, z] 31 (0, 0))) (h9 : W.heap[b9]? = some (.cells #[q] 32 (0, 0))) (a v u d : Value) :
    Kd.R (Kd.int .i64) 3 (put11 W b8 b9 a v u d) base ok vv xs :=
  Kd.R_mono (Kd.R_far (p := ⟨b9, 0, none⟩) (Kd.R_far (p := ⟨b8, 2, none⟩) (Kd.R_far (p := ⟨b8, 1, none⟩) (Kd.R_far (p := ⟨b8, 0, none⟩) (Kd.R_types (Kd.R_types hR h8 (by decide)) h9 (by decide)) (fun _ hk => hk.1.2) a) (fun _ hk => hk.1.2) v) (fun _ hk => hk.1.2) u) (fun _ hk => hk.2) d) (fun _ hk => hk.1.1)
theorem put11_below {w W : World} {b8 b9 : Nat} (h : Below w.heap.size w W) (h8 : w.heap.size ≤ b8) (h9 : w.heap.size ≤ b9) (a v u d : Value) : Below w.heap.size w (put11 W b8 b9 a v u d) :=
  below_set (below_set (below_set (below_set h h8) h8) h8) h9
theorem known_11 {W : World} {b8 b9 : Nat} {x y z q : Value} (h8 : W.heap[b8]? = some (.cells #[x, y, z] 31 (0, 0))) (h9 : W.heap[b9]? = some (.cells #[q] 32 (0, 0))) :
    (W.cell? ⟨b8, 0, none⟩ = some x ∧ W.frozen? ⟨b8, 0, none⟩ = false) ∧ (W.cell? ⟨b8, 1, none⟩ = some y ∧ W.frozen? ⟨b8, 1, none⟩ = false) ∧ (W.cell? ⟨b8, 2, none⟩ = some z ∧ W.frozen? ⟨b8, 2, none⟩ = false) ∧ W.cell? ⟨b9, 0, none⟩ = some q ∧ W.frozen? ⟨b9, 0, none⟩ = false :=
  ⟨⟨(blk_cell h8 0).trans rfl, blk_frozen h8 0⟩, ⟨(blk_cell h8 1).trans rfl, blk_frozen h8 1⟩, ⟨(blk_cell h8 2).trans rfl, blk_frozen h8 2⟩, (blk_cell h9 0).trans rfl, blk_frozen h9 0⟩
theorem Done.made {w : World} {A0 : Option Addr} {c0 : Nat} {l : List S41} {b1 b2 n2 bS b8 b9 bM bR bn : Nat} {C : Int → Option Int} {path used : List Int} {vp vu : Value} {W : World}
    (h : Cal w A0 c0 l b1 b2 n2 bS b8 b9 bM bR bn C path used vp vu W) (n1 : b8 ≠ b9) (n2 : b8 ≠ bR) (n3 : b9 ≠ bR) (g8 : w.heap.size ≤ b8) (g9 : w.heap.size ≤ b9) (gR : w.heap.size ≤ bR) (q : Int) :
    Done w b8 b9 (q, path, used) (put11 (W.setCell ⟨bR, 0, none⟩ (.int .i64 q)) b8 b9 (.int .i64 q) vp vu (.int .i64 0)) := by
  have h8 := blk_far (p := ⟨bR, 0, none⟩) h.r8 n2 (.int .i64 q)
  have h9 := blk_far (p := ⟨bR, 0, none⟩) h.r9 n3 (.int .i64 q)
  have hp := Kd.R_far (p := ⟨bR, 0, none⟩) (Kd.R_types h.p h.rb (by decide)) (fun _ hk => hk.2) (.int .i64 q)
  have hu := Kd.R_far (p := ⟨bR, 0, none⟩) (Kd.R_types h.u h.rb (by decide)) (fun _ hk => hk.2) (.int .i64 q)
  exact ⟨vp, vu, put11_8 h8 n1 _ _ _ _, put11_9 h9 n1 _ _ _ _, Kd.R_mono (put11_R hp h8 h9 _ _ _ _) (fun _ hk => hk.1.1), Kd.R_mono (put11_R hu h8 h9 _ _ _ _) (fun _ hk => hk.1.1), put11_below (below_set h.bel gR) g8 g9 _ _ _ _⟩
theorem sees11 (W : World) (bR b8 b9 : Nat) (q a v u d : Value) : Sees W (put11 (W.setCell ⟨bR, 0, none⟩ q) b8 b9 a v u d) :=
  ((((Sees.setCell W _ _).trans (Sees.setCell _ _ _)).trans (Sees.setCell _ _ _)).trans (Sees.setCell _ _ _)).trans (Sees.setCell _ _ _)
set_option maxHeartbeats 1000000 in
set_option maxRecDepth 100000 in
theorem forward_Resolve.calls (A0 : Option Addr) (c0 : Nat) (l0 : List S41) (A1 : Option Addr) (c1 : Nat) (l1 : List S37) (n t r1 : Int) (r2 r3 : List Int) (r4 : Int) (w : World) (hr0 : Kd.C k41 w A0 l0.length l0) (hc0 : l0.length ≤ c0) (hr1 : Kd.C k37 w A1 l1.length l1) (hc1 : l1.length ≤ c1) (h : forward_Resolve.f l0 l1 n t = some (r1, r2, r3, r4)) :
    Calls Tryz.prog 11 #[.slice A0 l0.length c0, .slice A1 l1.length c1, .int .i64 n, .int .i64 t] w fun e w' => ∃ v1 v2, e = .returned (.tuple #[.agg #[.int .i64 r1, v1, v2], .int .i64 r4]) ∧
      Kd.R (Kd.int .i64) 3 w' w.heap.size (fun k_ => some k_ ≠ v2.ownBlock) v1 r2 ∧ Kd.R (Kd.int .i64) 3 w' w.heap.size (fun k_ => some k_ ≠ v1.ownBlock) v2 r3 ∧ Below w.heap.size w w' := by
  have HR0 := Aside0.mk hr0
  have HR1 := Aside0.mk hr1
  have HV := Aside0.mk h
  clear hr0 hr1 h
  obtain ⟨wb, hwb⟩ : ∃ wb, wb = ((w.alloc (.cells #[.slice A0 l0.length c0] 24)).alloc (.cells #[.int .i64 0, .slice none 0 0, .slice none 0 0] 31)).alloc (.cells #[.int .i64 0] 32) := ⟨_, rfl⟩
  have HWB := Aside0.mk hwb
  have BK4 := Aside0.mk (show wb.heap[w.heap.size]? = some (.cells #[.slice A0 l0.length c0] 24 (0, 0)) by rw [hwb]; exact blk_alloc (blk_alloc (blk_new _ _) _) _)
  have BK8 := Aside0.mk (show wb.heap[w.heap.size + 1]? = some (.cells #[.int .i64 0, .slice none 0 0, .slice none 0 0] 31 (0, 0)) by
    have h := blk_new (w.alloc (.cells #[.slice A0 l0.length c0] 24)) (.cells #[.int .i64 0, .slice none 0 0, .slice none 0 0] 31)
    rw [World.size_alloc] at h; rw [hwb]; exact blk_alloc h _)
  have BK9 := Aside0.mk (show wb.heap[w.heap.size + 1 + 1]? = some (.cells #[.int .i64 0] 32 (0, 0)) by
    have h := blk_new ((w.alloc (.cells #[.slice A0 l0.length c0] 24)).alloc (.cells #[.int .i64 0, .slice none 0 0, .slice none 0 0] 31)) (.cells #[.int .i64 0] 32)
    rw [World.size_alloc, World.size_alloc] at h; rw [hwb]; exact h)
  have HBW := Aside0.mk (show Below w.heap.size w wb by rw [hwb]; exact below_alloc (below_alloc (below_alloc (Below.refl _ _) _) _) _)
  have HSZ := Aside0.mk (show wb.heap.size = w.heap.size + 1 + 1 + 1 by rw [hwb]; simp)
  clear hwb
  refine (callsIn_wide (n := 3)).1 ?_
  refine callsIn_of_wp_marks Tryz.func11 rfl trivial ?_ rfl
  simp only [Tryz.ntmps11, List.size_toArray, List.length_cons, List.length_nil, Nat.reduceAdd, Nat.reduceSub, Array.replicate_succ, Array.replicate_zero, List.push_toArray, List.append_toArray, List.nil_append, List.cons_append]
  refine wpIn_wide.2 ?_
  refine seq_hold fun K HK => ?_
  go_wp2
  refine HK.out _ _ ?_
  clear HK
  rw [← HWB.out]
  clear HWB
  obtain ⟨u, hu⟩ : ∃ u, valS l0 l1 = u := ⟨_, rfl⟩
  have HA := Aside0.mk (forward_Valid.calls A0 c0 l0 A1 c1 l1 u wb (Kd.C_below HR0.out HBW.out) hc0 (Kd.C_below HR1.out HBW.out) hc1 (by rw [← hu]; rfl))
  have k4 : wb.cell? ⟨w.heap.size, 0, none⟩ = some (.slice A0 l0.length c0) := (blk_cell BK4.out 0).trans rfl
  have hne : w.heap.size + 1 ≠ w.heap.size + 1 + 1 := by omega
  by_cases hgood : (u && (inB n 0 99999999 && inB t 0 10000000)) = true
  case neg =>
    have HV2 := Aside0.mk (show r1 = 0 ∧ r2 = [] ∧ r3 = [] ∧ r4 = 220 by have h := HV.out; unfold forward_Resolve.f at h; rw [hu, if_neg hgood] at h; simpa [eq_comm] using h)
    clear HV hu
    obtain ⟨p, hp⟩ : ∃ p, inB n 0 99999999 = p := ⟨_, rfl⟩
    obtain ⟨q, hq⟩ : ∃ q, inB t 0 10000000 = q := ⟨_, rfl⟩
    have HN := Aside0.mk (show forward_isNumber.f n = some p by rw [isNumber_f, hp])
    have HT := Aside0.mk (show forward_isIn.f t 0 10000000 = some q by rw [isIn_f, hq])
    rw [hp, hq] at hgood
    clear hp hq
    cases u <;> cases p <;> cases q <;> first
    | exact (hgood rfl).elim
    | skip
    all_goals
      clear hgood
      go_wp2_with (first | (go_at_call 25; refine HA.out.mono ?_; rintro e w2 ⟨rfl, hb2⟩; have HB2 := Aside0.mk (below_step HBW.out hb2); have BK82 := Aside0.mk (blk_below BK8.out hb2); have BK92 := Aside0.mk (blk_below BK9.out hb2); obtain ⟨⟨k80, f80⟩, ⟨k81, f81⟩, ⟨k82, f82⟩, k90, f90⟩ := known_11 BK82.out BK92.out; clear hb2) | (go_at_call 29; refine (forward_isNumber.calls _ _ _ HN.out).mono ?_; rintro e w' ⟨rfl, ⟨nd, rfl⟩⟩) | (go_at_call 30; refine (forward_isIn.calls _ _ _ _ _ HT.out).mono ?_; rintro e w' ⟨rfl, ⟨nd2, rfl⟩⟩))
      refine ⟨_, results_11 _ _ _ _ _ _ _ _ rfl rfl (put11_8 (by repeat (first | exact BK82.out | refine blk_drewN ?_ _)) hne _ _ _ _) (put11_9 (by repeat (first | exact BK92.out | refine blk_drewN ?_ _)) hne _ _ _ _), ?_⟩
      obtain ⟨rfl, rfl, rfl, rfl⟩ := HV2.out
      exact ⟨_, _, rfl, Kd.R_nil _ _ _ _ _, Kd.R_nil _ _ _ _ _, put11_below (by repeat (first | exact HB2.out | apply pw_below_drewN)) (by omega) (by omega) _ _ _ _⟩
  case pos =>
    simp only [Bool.and_eq_true] at hgood
    obtain ⟨rfl, hN1, hT1⟩ := hgood
    have HN := Aside0.mk (show forward_isNumber.f n = some true by rw [isNumber_f, hN1])
    have HT := Aside0.mk (show forward_isIn.f t 0 10000000 = some true by rw [isIn_f, hT1])
    have HN64 := Aside0.mk (in64_of hN1 (by omega) (by omega))
    have HF := Aside0.mk (valF hu t)
    have HRES := Aside0.mk (show resS l0 l1 n t = (r1, r2, r3) ∧ r4 = 0 by
      have h := HV.out
      unfold forward_Resolve.f at h
      rw [hu, hN1, hT1, if_pos (show (true && (true && true)) = true from rfl)] at h
      have h := Option.some.inj h
      simp only [Prod.mk.injEq] at h
      obtain ⟨rfl, rfl, rfl, rfl⟩ := h
      exact ⟨rfl, rfl⟩)
    clear HV hu hN1 hT1
    refine seq_hold fun K HK => ?_
    go_wp2_with (first | (go_at_call 25; refine HA.out.mono ?_; rintro e w2 ⟨rfl, hb2⟩; have HB2 := Aside0.mk hb2; clear hb2) | (go_at_call 29; refine (forward_isNumber.calls _ _ _ HN.out).mono ?_; rintro e w' ⟨rfl, ⟨nd, rfl⟩⟩) | (go_at_call 30; refine (forward_isIn.calls _ _ _ _ _ HT.out).mono ?_; rintro e w' ⟨rfl, ⟨nd2, rfl⟩⟩))
    refine HK.out _ _ ?_
    clear HK HA HN HT k4
    have HB3 := Aside0.mk (pw_below_drewN HB2.out (nd + nd2))
    generalize w2.drewN (nd + nd2) = w3 at *
    clear HB2
    have BK4_3 := Aside0.mk (blk_below BK4.out HB3.out)
    have BK8_3 := Aside0.mk (blk_below BK8.out HB3.out)
    have BK9_3 := Aside0.mk (blk_below BK9.out HB3.out)
    have HB := Aside0.mk (below_step HBW.out HB3.out)
    have k4 : w3.cell? ⟨w.heap.size, 0, none⟩ = some (.slice A0 l0.length c0) := (blk_cell BK4_3.out 0).trans rfl
    have HAT := Aside0.mk (at_calls A0 c0 l0 A1 c1 l1 t w3 (Kd.C_below HR0.out HB.out) (Kd.C_below HR1.out HB.out) (by have := HF.out.len; omega) (by have := HF.out.lenc; omega) HF.out.wl HF.out.wc)
    clear HB3 BK4 BK8 BK9 HBW HSZ
    refine seq_hold fun K HK => ?_
    go_wp2_with (first | (go_at_call 31; refine HAT.out.mono ?_; rintro e w4 ⟨b1, b2, rfl, hs, hc, hb4⟩; have HS := Aside0.mk hs; have HC := Aside0.mk hc; have HB4 := Aside0.mk hb4; clear hs hc hb4))
    refine HK.out _ _ ?_
    clear HK HAT k4
    have BM := Aside0.mk (blk_new w4 (.cells #[.slice A0 l0.length c0, .map (some b1), .map (some b2)] 73))
    refine seq_hold fun K HK => ?_
    go_wp2
    refine HK.out _ _ ?_
    clear HK
    refine wp_seq ?_
    refine seq_hold fun K HK => ?_
    go_wp2_with (first | (go_at_call 32; refine (walk_calls A0 l0.length c0 b1 b2 n _).mono ?_; rintro e w5 ⟨rfl, rfl⟩))
    refine HK.out _ _ ?_
    clear HK
    obtain ⟨w5, hw5⟩ : ∃ w5, w5 = (((((w4.alloc (.cells #[.slice A0 l0.length c0, .map (some b1), .map (some b2)] 73)).alloc (.cells #[.int .i64 n] 3)).alloc (.cells #[.int .i64 0, .slice (some ⟨w4.heap.size + 1, 0, none⟩) 1 1, .slice none 0 0] 31)).alloc
      (.cells #[.slice A0 l0.length c0, .map (some b1), .map (some b2)] 73)).alloc (.cells #[.int .i64 n] 3)) := ⟨_, rfl⟩
    have hb41 : b1 < w4.heap.size := by obtain ⟨F, hM, _⟩ := HS.out; exact hM.lt
    have hb42 : b2 < w4.heap.size := by obtain ⟨F, hM, _⟩ := HC.out; exact hM.lt
    have hsz4 : w.heap.size + 1 + 1 < w4.heap.size := blk_lt (blk_below BK9_3.out HB4.out)
    have hsz5 : w5.heap.size = w4.heap.size + 1 + 1 + 1 + 1 + 1 := by rw [hw5]; simp
    have hBel : Below w4.heap.size w4 w5 := by rw [hw5]; exact below_alloc (below_alloc (below_alloc (below_alloc (below_alloc (Below.refl _ _) _) _) _) _) _
    have hB4 := below_step HB.out HB4.out
    have hB5 := below_step hB4 hBel
    have hBM : w5.heap[w4.heap.size]? = some (.cells #[.slice A0 l0.length c0, .map (some b1), .map (some b2)] 73 (0, 0)) := by rw [hw5]; exact blk_alloc (blk_alloc (blk_alloc (blk_alloc BM.out _) _) _) _
    have hBR : w5.heap[w4.heap.size + 1 + 1]? = some (.cells #[.int .i64 0, .slice (some ⟨w4.heap.size + 1, 0, none⟩) 1 1, .slice none 0 0] 31 (0, 0)) := by
      have h := blk_new ((w4.alloc (.cells #[.slice A0 l0.length c0, .map (some b1), .map (some b2)] 73)).alloc (.cells #[.int .i64 n] 3)) (.cells #[.int .i64 0, .slice (some ⟨w4.heap.size + 1, 0, none⟩) 1 1, .slice none 0 0] 31)
      rw [World.size_alloc, World.size_alloc] at h
      rw [hw5]; exact blk_alloc (blk_alloc h _) _
    have hBm : w5.heap[w4.heap.size + 1 + 1 + 1]? = some (.cells #[.slice A0 l0.length c0, .map (some b1), .map (some b2)] 73 (0, 0)) := by
      have h := blk_new (((w4.alloc (.cells #[.slice A0 l0.length c0, .map (some b1), .map (some b2)] 73)).alloc (.cells #[.int .i64 n] 3)).alloc (.cells #[.int .i64 0, .slice (some ⟨w4.heap.size + 1, 0, none⟩) 1 1, .slice none 0 0] 31)) (.cells #[.slice A0 l0.length c0, .map (some b1), .map (some b2)] 73)
      rw [World.size_alloc, World.size_alloc, World.size_alloc] at h
      rw [hw5]; exact blk_alloc h _
    have hBn : w5.heap[w4.heap.size + 1 + 1 + 1 + 1]? = some (.cells #[.int .i64 n] 3 (0, 0)) := by
      have h := blk_new ((((w4.alloc (.cells #[.slice A0 l0.length c0, .map (some b1), .map (some b2)] 73)).alloc (.cells #[.int .i64 n] 3)).alloc (.cells #[.int .i64 0, .slice (some ⟨w4.heap.size + 1, 0, none⟩) 1 1, .slice none 0 0] 31)).alloc (.cells #[.slice A0 l0.length c0, .map (some b1), .map (some b2)] 73)) (.cells #[.int .i64 n] 3)
      rw [World.size_alloc, World.size_alloc, World.size_alloc, World.size_alloc] at h
      rw [hw5]; exact h
    have hP : Kd.R (Kd.int .i64) 3 w5 w.heap.size (fun k => some k ≠ (Value.slice none 0 0).ownBlock ∧ k ≠ w4.heap.size + 1 + 1 + 1 + 1 ∧ k ≠ b1 ∧ k ≠ b2) (.slice (some ⟨w4.heap.size + 1, 0, none⟩) 1 1) [n] := by
      rw [hw5]
      refine Kd.R_alloc (Kd.R_alloc (Kd.R_alloc ?_ _) _) _
      have h := own_lit_of (enc := Value.int .i64) (w4.alloc (.cells #[.slice A0 l0.length c0, .map (some b1), .map (some b2)] 73)) w.heap.size 3 [n] (by simp; omega) (by simp)
      rw [World.size_alloc] at h
      exact Kd.R_of_own h (fun k hk => by
        have : w4.heap.size + 1 = k := by simpa [Value.ownBlock] using hk
        subst this
        exact ⟨by simp [Value.ownBlock], by omega, by omega, by omega⟩)
    have HCal := Aside0.mk (show CalE w A0 c0 l0 b1 b2 1000 w.heap.size (w.heap.size + 1) (w.heap.size + 1 + 1) w4.heap.size (w4.heap.size + 1 + 1) (w4.heap.size + 1 + 1 + 1 + 1) (cOf l1) [n] [] w5 from
      ⟨_, _, blk_below (blk_below BK4_3.out HB4.out) hBel, blk_below (blk_below BK8_3.out HB4.out) hBel, blk_below (blk_below BK9_3.out HB4.out) hBel, hBM, hBR, hP, Kd.R_nil _ _ _ _ _, HC.out.below hBel, hB5⟩)
    have HBase := Aside0.mk (show Base w A0 c0 l0 b1 b2 1000 1000 (w4.heap.size + 1 + 1 + 1) (w4.heap.size + 1 + 1 + 1 + 1) (gOf l0 t) (cOf l1) n w5 from ⟨hBm, hBn, HS.out.below hBel, HC.out.below hBel, hB5⟩)
    rw [← hw5]
    have hle4 : w.heap.size < w4.heap.size := by omega
    clear hw5 hBel hB4 hB5 hBM hBR hBm hBn hP BM HS HC HB4 BK4_3 BK8_3 BK9_3 HB
    refine wp_block ?_
    refine (wpIn_wide (n := 3)).1 ?_
    obtain ⟨hres, rfl⟩ := HRES.out
    have HR := Aside0.mk hres
    clear hres HRES
    have hne3 : w.heap.size ≠ w4.heap.size + 1 + 1 + 1 + 1 ∧ w.heap.size + 1 ≠ w4.heap.size + 1 + 1 + 1 + 1 ∧ w.heap.size + 1 + 1 ≠ w4.heap.size + 1 + 1 + 1 + 1 ∧ w4.heap.size ≠ w4.heap.size + 1 + 1 + 1 + 1 ∧ w4.heap.size + 1 + 1 ≠ w4.heap.size + 1 + 1 + 1 + 1 ∧ b2 ≠ w4.heap.size + 1 + 1 + 1 + 1 := ⟨by omega, by omega, by omega, by omega, by omega, by omega⟩
    refine wpIn_range rfl (by omega) (gf := 49) (lb := #[.pointer (some ⟨w4.heap.size + 1 + 1 + 1, 0, none⟩), .pointer (some ⟨w4.heap.size + 1 + 1 + 1 + 1, 0, none⟩)]) rfl trivial (enters_of Tryz.func49 (by kernel_rfl) rfl) (fun _ => rfl)
      (walk_iter (w0 := w) (c0 := c0) (b1 := b1) (b2 := b2) (bm := w4.heap.size + 1 + 1 + 1) (bn := w4.heap.size + 1 + 1 + 1 + 1) (n1 := 1000) (n2 := 1000) (G := gOf l0 t) (C := cOf l1) 2 HR0.out (by have := HF.out.len; omega) (by omega) (by omega) (by omega) (by omega) HF.out.g HF.out.c HF.out.wt n HN64.out 5
        (RIn w A0 c0 l0 b1 b2 1000 w.heap.size (w.heap.size + 1) (w.heap.size + 1 + 1) w4.heap.size (w4.heap.size + 1 + 1) (w4.heap.size + 1 + 1 + 1 + 1) (cOf l1) (cnt (gOf l0 t) (cOf l1)) (r1, r2, r3)) (RGo' w A0 c0 l0 b1 b2 1000 w.heap.size (w.heap.size + 1) (w.heap.size + 1 + 1) w4.heap.size (w4.heap.size + 1 + 1) (w4.heap.size + 1 + 1 + 1 + 1) (cOf l1) (cnt (gOf l0 t) (cOf l1)) (r1, r2, r3)) (CalE w A0 c0 l0 b1 b2 1000 w.heap.size (w.heap.size + 1) (w.heap.size + 1 + 1) w4.heap.size (w4.heap.size + 1 + 1) (w4.heap.size + 1 + 1 + 1 + 1) (cOf l1) [n] []) (RFin w A0 c0 l0 b1 b2 1000 w.heap.size (w.heap.size + 1) (w.heap.size + 1 + 1) w4.heap.size (w4.heap.size + 1 + 1) (w4.heap.size + 1 + 1 + 1 + 1) (cOf l1) (r1, r2, r3)) ?hstart ?hnext ?hbound)
      (IxR w (w.heap.size + 1) (w.heap.size + 1 + 1) (r1, r2, r3)) ?r1 ?r2 ?r3 ?r4 (fun s => { tmps := #[.slice A0 l0.length c0, .slice A1 l1.length c1, .int .i64 n, .int .i64 t, .pointer (some ⟨w.heap.size, 0, none⟩), undef, undef, undef, .pointer (some ⟨w.heap.size + 1, 0, none⟩), .pointer (some ⟨w.heap.size + 1 + 1, 0, none⟩), .pointer (some ⟨w4.heap.size, 0, none⟩), .pointer (some ⟨w4.heap.size + 1 + 1, 0, none⟩), .int .i64 s.2.2, undef, undef, .slice A0 l0.length c0, .slice A1 l1.length c1, .bool true, .bool false, .bool false, .int .i64 n, .bool true, .bool false, .bool false, .bool false, .int .i64 t, .bool true, .bool false, .bool false, undef, .slice A0 l0.length c0, .slice A1 l1.length c1, .int .i64 t, .agg #[.slice A0 l0.length c0, .map (some b1), .map (some b2)], .int .i64 n, .slice (some ⟨w4.heap.size + 1, 0, none⟩) 1 1, .agg #[.int .i64 0, .slice (some ⟨w4.heap.size + 1, 0, none⟩) 1 1, .slice none 0 0], .agg #[.slice A0 l0.length c0, .map (some b1), .map (some b2)], .int .i64 n, .func (.func 49) #[] #[.pointer (some ⟨w4.heap.size + 1 + 1 + 1, 0, none⟩), .pointer (some ⟨w4.heap.size + 1 + 1 + 1 + 1, 0, none⟩)], .int .i64 s.2.2, undef, undef, undef, undef, undef, undef, undef, undef, undef, undef, undef, undef, undef, undef, undef, undef, undef, undef, undef, undef, undef, undef, undef, undef, undef, undef, undef, undef, undef, undef, undef, undef, undef, undef, undef, undef, undef, undef, undef, undef, undef, undef, undef, undef], defers := [] }) ?h0 ?assign ?body ?done ?stop
    case hstart =>
      intro W W' h hg
      exact RGo.next (k := 0) (i := 0) ⟨[n], [], rfl, by omega, rfl, rfl, HR.out, h⟩ HN64.out hg (by omega) hne3
    case hnext =>
      intro k x i W W' h hg
      exact RGo.next (k := k + 1) h (to_in HF.out.wt i) hg (by omega) hne3
    case hbound =>
      intro k x i W h
      obtain ⟨_, _, _, _, h, _⟩ := h
      exact h
    case r1 => exact fun s => Rec_and (base_rec (by omega) (by omega) (by omega) (by omega) (by omega)) (Rec_and (fun W l r r' _ h _ => h) <| RGo.rec (by omega) (by omega) (by omega) (by omega) (by omega) (by omega) (by omega))
    case r2 => exact fun s => Rec_and (base_rec (by omega) (by omega) (by omega) (by omega) (by omega)) (RGo.rec (by omega) (by omega) (by omega) (by omega) (by omega) (by omega) (by omega))
    case r3 => exact fun c => IxR.rec (by omega) (by omega) (by omega) c
    case r4 => exact RFin.rec (by omega) (by omega) (by omega) (by omega) (by omega) (by omega) (by omega)
    case h0 =>
      intro W1 hb
      obtain ⟨vp, vu, h⟩ := HCal.out
      exact ⟨HBase.out.below hb, vp, vu, h.below hb⟩
    case assign =>
      intro l s W K hK
      dsimp only
      gi_wp2
      exact hK
    case body =>
      rintro l ⟨k, x, i⟩ W ⟨hB, hcn, path, used, g1, g2, g3, g4, g5, vp, vu, hC⟩ hlt
      dsimp only at g1 g2 g3 g4 g5 hcn
      obtain ⟨hi0, hi1⟩ := cnt_lt HF.out.g hcn
      obtain ⟨Ap, cp, rfl, hcp, hrp⟩ := Kd.R_reads hC.p
      obtain ⟨Au, cu, rfl, hcu, hru⟩ := Kd.R_reads hC.u
      have HBS := Aside0.mk hB
      have HCC := Aside0.mk hC
      have HRP := Aside0.mk hrp
      have kS : W.cell? ⟨w.heap.size, 0, none⟩ = some (.slice A0 l0.length c0) := (blk_cell hC.s 0).trans rfl
      obtain ⟨⟨k80, f80⟩, ⟨k81, f81⟩, ⟨k82, f82⟩, k90, f90⟩ := known_11 hC.r8 hC.r9
      have kR0 : W.cell? ⟨w4.heap.size + 1 + 1, 0, none⟩ = some (.int .i64 0) := (blk_cell hC.rb 0).trans rfl
      have kR1 : W.cell? ⟨w4.heap.size + 1 + 1, 1, none⟩ = some (.slice Ap path.length cp) := (blk_cell hC.rb 1).trans rfl
      have kR2 : W.cell? ⟨w4.heap.size + 1 + 1, 2, none⟩ = some (.slice Au used.length cu) := (blk_cell hC.rb 2).trans rfl
      have fR0 : W.frozen? ⟨w4.heap.size + 1 + 1, 0, none⟩ = false := blk_frozen hC.rb 0
      clear hB hC hrp hru HBase HCal HN64
      by_cases h5 : k = 5
      · subst h5
        have hu5 : (used.length : Int) = 5 := by omega
        have HRS := Aside0.mk (show (r1, r2, r3) = (6, path, used) by
          rw [← g5]; simp [resGo, hcn, g1])
        clear g1 g2 g3 g4 g5 hcn
        gi_wp2
        refine ⟨sees11 _ _ _ _ _ _ _ _ _, ?_⟩
        show Done w (w.heap.size + 1) (w.heap.size + 1 + 1) (r1, r2, r3) _
        rw [HRS.out]
        exact Done.made HCC.out (by omega) (by omega) (by omega) (by omega) (by omega) (by omega) 6
      · obtain ⟨ad, hA, e0, e1, e2, e3, e4⟩ := at_T41 HR0.out i hi0 hi1
        subst hA
        replace e2 := pw_cell_below HCC.out.bel e2
        clear e0 e1 e3 e4
        have HTO := Aside0.mk (show (rd_T41 l0 i).f2 = toOf l0 i from rfl)
        obtain ⟨tn, hto⟩ : ∃ tn, toOf l0 i = tn := ⟨_, rfl⟩
        have HTI := Aside0.mk (show In64 tn by rw [← hto]; exact to_in HF.out.wt i)
        rw [HTO.out, hto] at e2
        obtain ⟨b, hb⟩ : ∃ b, path.contains tn = b := ⟨_, rfl⟩
        have HCT := Aside0.mk (containsI_calls tn Ap cp path W HRP.out (by omega))
        rw [hb] at HCT
        have hu5 : ¬ (used.length : Int) = 5 := by omega
        have HG5 := Aside0.mk g5
        have HG1 := Aside0.mk g1
        have HG2 := Aside0.mk g2
        have HG3 := Aside0.mk g3
        have HG4 := Aside0.mk g4
        have HK5 := Aside0.mk h5
        have HCN := Aside0.mk hcn
        have HB0 := Aside0.mk hb
        have HT0 := Aside0.mk hto
        clear g1 g2 g3 g4 g5 h5 hcn hb hto HTO
        gi_wp2_with (first | (refine ⟨trivial, ?_⟩; refine ((callsIn_wide.2 (HCT.out)).inRound l).mono ?_; rintro e W2 ⟨rfl, h2⟩; obtain rfl := h2.symm))
        refine region_round (by kernel_rfl) (fun ⟨_, _, h⟩ => h) (by kernel_rfl) ?_
        have HM := Aside0.mk (show Mid w (some ad) c0 l0 b1 b2 1000 1000 w.heap.size (w.heap.size + 1) (w.heap.size + 1 + 1) w4.heap.size (w4.heap.size + 1 + 1) (w4.heap.size + 1 + 1 + 1) (w4.heap.size + 1 + 1 + 1 + 1) (gOf l0 t) (cOf l1) x W path used (.slice Ap path.length cp) (.slice Au used.length cu) (.slice Ap path.length cp) (.slice Au used.length cu) W.drew from
          Mid.below ⟨HCC.out, HBS.out, Sees.refl _⟩ (below_drew1 (Below.refl _ _)))
        refine wpAny_of_last (S := fun w' => w'.cell? ⟨w4.heap.size + 1 + 1, 1, none⟩ = some (.slice Ap path.length cp) ∧ w'.cell? ⟨w4.heap.size + 1 + 1, 2, none⟩ = some (.slice Au used.length cu)) (ds := [11, 13]) _ _ _ _ ?_
        change wpAnyLast _ _ _ _ _ _ 14 #[false, false, false, false, false, false, false, false, false, false, false, false, false, false] _ _
        have hHeld : W.drew.cell? ⟨w4.heap.size + 1 + 1, 1, none⟩ = some (.slice Ap path.length cp) ∧ W.drew.cell? ⟨w4.heap.size + 1 + 1, 2, none⟩ = some (.slice Au used.length cu) := ⟨kR1, kR2⟩
        generalize W.drew = Wd at HM hHeld ⊢
        clear HCC HBS HRP HCT kS k80 f80 k81 f81 k82 f82 k90 f90 kR0 kR1 kR2 fR0 e2
        refine pure_ (i := 0) (N := some 56) (v := ?_) (a' := ?_) #[true, false, false, false, false, false, false, false, false, false, false, false, false, false] rfl rfl (by kernel_rfl) (fun _ _ _ h => h) (Or.inl ⟨by rfl, ?_⟩) ?_ ?_
        rotate_left
        · intro w'
          go_simp
          with_reducible rfl
        rotate_left
        · simp only [Act.put, List.setIfInBounds_toArray, List.set_cons_zero, List.set_cons_succ, i64_w, i32_w]
          rfl
        refine pure_ (i := 2) (N := some 58) (v := ?_) (a' := ?_) #[true, false, true, false, false, false, false, false, false, false, false, false, false, false] rfl rfl (by kernel_rfl) (fun _ _ _ h => h) (Or.inl ⟨by rfl, ?_⟩) ?_ ?_
        rotate_left
        · intro w'
          go_simp
          with_reducible rfl
        rotate_left
        · simp only [Act.put, List.setIfInBounds_toArray, List.set_cons_zero, List.set_cons_succ, i64_w, i32_w]
          rfl
        refine pure_ (i := 5) (N := some 61) (v := ?_) (a' := ?_) #[true, false, true, false, false, true, false, false, false, false, false, false, false, false] rfl rfl (by kernel_rfl) (fun _ _ _ h => h) (Or.inl ⟨by rfl, ?_⟩) ?_ ?_
        rotate_left
        · intro w'
          go_simp
          with_reducible rfl
        rotate_left
        · simp only [Act.put, List.setIfInBounds_toArray, List.set_cons_zero, List.set_cons_succ, i64_w, i32_w]
          rfl
        refine pure_ (i := 7) (N := some 63) (v := ?_) (a' := ?_) #[true, false, true, false, false, true, false, true, false, false, false, false, false, false] rfl rfl (by kernel_rfl) (fun _ _ _ h => h) (Or.inl ⟨by rfl, ?_⟩) ?_ ?_
        rotate_left
        · intro w'
          go_simp
          with_reducible rfl
        rotate_left
        · simp only [Act.put, List.setIfInBounds_toArray, List.set_cons_zero, List.set_cons_succ, i64_w, i32_w]
          rfl
        refine take_ (i := 1) (N := some 57) (v := ?_) (a' := ?_) #[true, true, true, false, false, true, false, true, false, false, false, false, false, false] rfl rfl (by kernel_rfl) (fun _ _ _ h => h) (Or.inl ⟨by rfl, ?_⟩) hHeld ?_ ?_
        rotate_left
        · rintro w' ⟨s0, s1⟩
          go_simp
          with_reducible rfl
        rotate_left
        · simp only [Act.put, List.setIfInBounds_toArray, List.set_cons_zero, List.set_cons_succ, i64_w, i32_w]
          rfl
        refine take_ (i := 6) (N := some 62) (v := ?_) (a' := ?_) #[true, true, true, false, false, true, true, true, false, false, false, false, false, false] rfl rfl (by kernel_rfl) (fun _ _ _ h => h) (Or.inl ⟨by rfl, ?_⟩) hHeld ?_ ?_
        rotate_left
        · rintro w' ⟨s0, s1⟩
          go_simp
          with_reducible rfl
        rotate_left
        · simp only [Act.put, List.setIfInBounds_toArray, List.set_cons_zero, List.set_cons_succ, i64_w, i32_w]
          rfl
        refine join_ (σ := Nat × Nat × Value) 4 #[true, true, true, true, true, true, true, true, true, false, true, false, false, false] (fun s => [(59, .slice (some ⟨s.1, 0, none⟩) 1 1), (60, s.2.2), (64, .slice (some ⟨s.2.1, 0, none⟩) 1 1), (66, .pointer (some ⟨w4.heap.size + 1 + 1, 1, none⟩))])
          (fun s W' => Mid w (some ad) c0 l0 b1 b2 1000 1000 w.heap.size (w.heap.size + 1) (w.heap.size + 1 + 1) w4.heap.size (w4.heap.size + 1 + 1) (w4.heap.size + 1 + 1 + 1) (w4.heap.size + 1 + 1 + 1 + 1) (gOf l0 t) (cOf l1) x W (path ++ [tn]) (used) ((.slice Ap path.length cp)) ((.slice Au used.length cu)) (s.2.2) ((.slice Au used.length cu)) W' ∧ Kd.R (Kd.int .i64) 3 W' w.heap.size (fun _ => True) (.slice (some ⟨s.2.1, 0, none⟩) 1 1) [i] ∧ some s.2.1 ≠ (Value.slice Au used.length cu).ownBlock) ?_ ?_
        rotate_left
        · intro hCont
          refine two_ (i := 3) (j := 8) (Ni := some 59) (Nj := some 64) #[true, true, true, true, false, true, true, true, false, false, false, false, false, false] #[true, true, true, false, false, true, true, true, true, false, false, false, false, false] rfl rfl rfl rfl (by kernel_rfl) (by decide) (by decide) (fun K hK => ?_) (fun K hK => ?_)
          · skip
            refine event_step (by rfl) (v := .slice (some ⟨Wd.heap.size, 0, none⟩) 1 1) (w1 := Wd.alloc (.cells #[.int .i64 tn] 3)) (by first | (go_simp; done) | (go_simp; rfl)) ?_
            obtain ⟨hm_, hr_, ho_, hq_⟩ := lit_row tn HM.out
            have HM1 := Aside0.mk hm_
            have HR3 := Aside0.mk hr_
            have HO3 := Aside0.mk ho_
            have HQ3 := Aside0.mk hq_
            clear hm_ hr_ ho_ hq_ HM
            have HM := HM1
            clear HM1
            obtain ⟨g3, eg3⟩ : ∃ g, g = Wd.heap.size := ⟨_, rfl⟩
            rw [← eg3] at HR3 HO3 HQ3
            rw [← eg3]
            clear eg3
            refine hK.out _ _ (mid_held HM.out) (fun hHeld => ?_)
            clear hK K
            generalize Wd.alloc (.cells #[.int .i64 tn] 3) = Wd3 at *
            refine norm_ (a' := ?_) ?_ ?_
            rotate_left
            · show Act.put _ (some 59) _ = _
              simp only [Act.put, List.setIfInBounds_toArray, List.set_cons_zero, List.set_cons_succ, i64_w, i32_w]
              rfl
            refine two_ (i := 4) (j := 8) (Ni := some 60) (Nj := some 64) #[true, true, true, true, true, true, true, true, false, false, false, false, false, false] #[true, true, true, true, false, true, true, true, true, false, false, false, false, false] rfl rfl rfl rfl (by kernel_rfl) (by decide) (by decide) (fun K hK => ?_) (fun K hK => ?_)
            · skip
              refine Kd.R_append_rows_step (Kd.int .i64) (w0 := w) w.heap.size (by rfl) (.tmp 57) (.tmp 59) 29 3 (.int .i64 0) 8 rfl Tryz.underlying29 info3 rfl (by decide) (by omega) (.slice Ap path.length cp) path [tn] _ _ _ (fun k => some k ≠ (Value.slice Au used.length cu).ownBlock ∧ k ≠ w4.heap.size + 1 + 1 + 1 + 1 ∧ k ≠ b1 ∧ k ≠ b2) (fun _ => False) rfl rfl HM.out.1.p (Kd.R_reads' HR3.out).2.2 (fun _ _ h => h) (fun _ h => h.elim) (mid_fresh HM.out) HM.out.1.bel (below_size HM.out.1.bel) (by have := HG3.out; have := HG2.out; simp; omega) ?_
              intro v60 Wd34 ho hb hg hat
              have HM1 := Aside0.mk (HM.out.appP ho hb hg hat)
              clear HR3 HM
              have HM := HM1
              clear HM1 ho hb hg hat
              refine hK.out _ _ (mid_held HM.out) (fun hHeld => ?_)
              clear hK K
              refine norm_ (a' := ?_) ?_ ?_
              rotate_left
              · show Act.put _ (some 60) _ = _
                simp only [Act.put, List.setIfInBounds_toArray, List.set_cons_zero, List.set_cons_succ, i64_w, i32_w]
                rfl
              refine pure_ (i := 10) (N := some 66) (v := ?_) (a' := ?_) #[true, true, true, true, true, true, true, true, false, false, true, false, false, false] rfl rfl (by kernel_rfl) (fun _ _ _ h => h) (Or.inl ⟨by rfl, ?_⟩) ?_ ?_
              rotate_left
              · intro w'
                go_simp
                with_reducible rfl
              rotate_left
              · simp only [Act.put, List.setIfInBounds_toArray, List.set_cons_zero, List.set_cons_succ, i64_w, i32_w]
                rfl
              refine one_ (i := 8) (N := some 64) #[true, true, true, true, true, true, true, true, true, false, true, false, false, false] rfl rfl (by kernel_rfl) (by decide) (fun K hK => ?_)
              refine event_step (by rfl) (v := .slice (some ⟨Wd34.heap.size, 0, none⟩) 1 1) (w1 := Wd34.alloc (.cells #[.int .i64 i] 3)) (by first | (go_simp; done) | (go_simp; rfl)) ?_
              obtain ⟨hm_, hr_, ho_, hq_⟩ := lit_row i HM.out
              have HM1 := Aside0.mk hm_
              have HR8 := Aside0.mk hr_
              have HO8 := Aside0.mk ho_
              have HQ8 := Aside0.mk hq_
              clear hm_ hr_ ho_ hq_ HM
              have HM := HM1
              clear HM1
              obtain ⟨g8, eg8⟩ : ∃ g, g = Wd34.heap.size := ⟨_, rfl⟩
              rw [← eg8] at HR8 HO8 HQ8
              rw [← eg8]
              clear eg8
              refine hK.out _ _ (mid_held HM.out) (fun hHeld => ?_)
              clear hK K
              generalize Wd34.alloc (.cells #[.int .i64 i] 3) = Wd348 at *
              refine norm_ (a' := ?_) ?_ ?_
              rotate_left
              · show Act.put _ (some 64) _ = _
                simp only [Act.put, List.setIfInBounds_toArray, List.set_cons_zero, List.set_cons_succ, i64_w, i32_w]
                rfl
              exact norm_ (by simp only [putAll, Act.put, List.setIfInBounds_toArray, List.set_cons_zero, List.set_cons_succ]) (hCont (g3, g8, v60) _ ⟨HM.out, HR8.out, HQ8.out⟩)
            · skip
              refine event_step (by rfl) (v := .slice (some ⟨Wd3.heap.size, 0, none⟩) 1 1) (w1 := Wd3.alloc (.cells #[.int .i64 i] 3)) (by first | (go_simp; done) | (go_simp; rfl)) ?_
              obtain ⟨hm_, hr_, ho_, hq_⟩ := lit_row i HM.out
              have HM1 := Aside0.mk hm_
              have HR8 := Aside0.mk hr_
              have HO8 := Aside0.mk ho_
              have HQ8 := Aside0.mk hq_
              have HR3' := Aside0.mk (Kd.R_alloc HR3.out (.cells #[.int .i64 i] 3))
              clear HR3
              have HR3 := HR3'
              clear HR3'
              clear hm_ hr_ ho_ hq_ HM
              have HM := HM1
              clear HM1
              obtain ⟨g8, eg8⟩ : ∃ g, g = Wd3.heap.size := ⟨_, rfl⟩
              rw [← eg8] at HR8 HO8 HQ8
              rw [← eg8]
              clear eg8
              refine hK.out _ _ (mid_held HM.out) (fun hHeld => ?_)
              clear hK K
              generalize Wd3.alloc (.cells #[.int .i64 i] 3) = Wd38 at *
              refine norm_ (a' := ?_) ?_ ?_
              rotate_left
              · show Act.put _ (some 64) _ = _
                simp only [Act.put, List.setIfInBounds_toArray, List.set_cons_zero, List.set_cons_succ, i64_w, i32_w]
                rfl
              refine one_ (i := 4) (N := some 60) #[true, true, true, true, true, true, true, true, true, false, false, false, false, false] rfl rfl (by kernel_rfl) (by decide) (fun K hK => ?_)
              refine Kd.R_append_rows_step (Kd.int .i64) (w0 := w) w.heap.size (by rfl) (.tmp 57) (.tmp 59) 29 3 (.int .i64 0) 8 rfl Tryz.underlying29 info3 rfl (by decide) (by omega) (.slice Ap path.length cp) path [tn] _ _ _ (fun k => some k ≠ (Value.slice Au used.length cu).ownBlock ∧ k ≠ w4.heap.size + 1 + 1 + 1 + 1 ∧ k ≠ b1 ∧ k ≠ b2) (fun _ => False) rfl rfl HM.out.1.p (Kd.R_reads' HR3.out).2.2 (fun _ _ h => h) (fun _ h => h.elim) (mid_fresh HM.out) HM.out.1.bel (below_size HM.out.1.bel) (by have := HG3.out; have := HG2.out; simp; omega) ?_
              intro v60 Wd384 ho hb hg hat
              have HM1 := Aside0.mk (HM.out.appP ho hb hg hat)
              have HR8' := Aside0.mk (Kd.R_grown1 HR8.out rfl hg (by intro e; exact HO8.out (e.symm ▸ rfl)))
              clear HR8
              have HR8 := HR8'
              clear HR8'
              clear HR3 HM
              have HM := HM1
              clear HM1 ho hb hg hat
              refine hK.out _ _ (mid_held HM.out) (fun hHeld => ?_)
              clear hK K
              refine norm_ (a' := ?_) ?_ ?_
              rotate_left
              · show Act.put _ (some 60) _ = _
                simp only [Act.put, List.setIfInBounds_toArray, List.set_cons_zero, List.set_cons_succ, i64_w, i32_w]
                rfl
              refine pure_ (i := 10) (N := some 66) (v := ?_) (a' := ?_) #[true, true, true, true, true, true, true, true, true, false, true, false, false, false] rfl rfl (by kernel_rfl) (fun _ _ _ h => h) (Or.inl ⟨by rfl, ?_⟩) ?_ ?_
              rotate_left
              · intro w'
                go_simp
                with_reducible rfl
              rotate_left
              · simp only [Act.put, List.setIfInBounds_toArray, List.set_cons_zero, List.set_cons_succ, i64_w, i32_w]
                rfl
              exact norm_ (by simp only [putAll, Act.put, List.setIfInBounds_toArray, List.set_cons_zero, List.set_cons_succ]) (hCont (g3, g8, v60) _ ⟨HM.out, HR8.out, HQ8.out⟩)
          · skip
            refine event_step (by rfl) (v := .slice (some ⟨Wd.heap.size, 0, none⟩) 1 1) (w1 := Wd.alloc (.cells #[.int .i64 i] 3)) (by first | (go_simp; done) | (go_simp; rfl)) ?_
            obtain ⟨hm_, hr_, ho_, hq_⟩ := lit_row i HM.out
            have HM1 := Aside0.mk hm_
            have HR8 := Aside0.mk hr_
            have HO8 := Aside0.mk ho_
            have HQ8 := Aside0.mk hq_
            clear hm_ hr_ ho_ hq_ HM
            have HM := HM1
            clear HM1
            obtain ⟨g8, eg8⟩ : ∃ g, g = Wd.heap.size := ⟨_, rfl⟩
            rw [← eg8] at HR8 HO8 HQ8
            rw [← eg8]
            clear eg8
            refine hK.out _ _ (mid_held HM.out) (fun hHeld => ?_)
            clear hK K
            generalize Wd.alloc (.cells #[.int .i64 i] 3) = Wd8 at *
            refine norm_ (a' := ?_) ?_ ?_
            rotate_left
            · show Act.put _ (some 64) _ = _
              simp only [Act.put, List.setIfInBounds_toArray, List.set_cons_zero, List.set_cons_succ, i64_w, i32_w]
              rfl
            refine one_ (i := 3) (N := some 59) #[true, true, true, true, false, true, true, true, true, false, false, false, false, false] rfl rfl (by kernel_rfl) (by decide) (fun K hK => ?_)
            refine event_step (by rfl) (v := .slice (some ⟨Wd8.heap.size, 0, none⟩) 1 1) (w1 := Wd8.alloc (.cells #[.int .i64 tn] 3)) (by first | (go_simp; done) | (go_simp; rfl)) ?_
            obtain ⟨hm_, hr_, ho_, hq_⟩ := lit_row tn HM.out
            have HM1 := Aside0.mk hm_
            have HR3 := Aside0.mk hr_
            have HO3 := Aside0.mk ho_
            have HQ3 := Aside0.mk hq_
            have HR8' := Aside0.mk (Kd.R_alloc HR8.out (.cells #[.int .i64 tn] 3))
            clear HR8
            have HR8 := HR8'
            clear HR8'
            clear hm_ hr_ ho_ hq_ HM
            have HM := HM1
            clear HM1
            obtain ⟨g3, eg3⟩ : ∃ g, g = Wd8.heap.size := ⟨_, rfl⟩
            rw [← eg3] at HR3 HO3 HQ3
            rw [← eg3]
            clear eg3
            refine hK.out _ _ (mid_held HM.out) (fun hHeld => ?_)
            clear hK K
            generalize Wd8.alloc (.cells #[.int .i64 tn] 3) = Wd83 at *
            refine norm_ (a' := ?_) ?_ ?_
            rotate_left
            · show Act.put _ (some 59) _ = _
              simp only [Act.put, List.setIfInBounds_toArray, List.set_cons_zero, List.set_cons_succ, i64_w, i32_w]
              rfl
            refine one_ (i := 4) (N := some 60) #[true, true, true, true, true, true, true, true, true, false, false, false, false, false] rfl rfl (by kernel_rfl) (by decide) (fun K hK => ?_)
            refine Kd.R_append_rows_step (Kd.int .i64) (w0 := w) w.heap.size (by rfl) (.tmp 57) (.tmp 59) 29 3 (.int .i64 0) 8 rfl Tryz.underlying29 info3 rfl (by decide) (by omega) (.slice Ap path.length cp) path [tn] _ _ _ (fun k => some k ≠ (Value.slice Au used.length cu).ownBlock ∧ k ≠ w4.heap.size + 1 + 1 + 1 + 1 ∧ k ≠ b1 ∧ k ≠ b2) (fun _ => False) rfl rfl HM.out.1.p (Kd.R_reads' HR3.out).2.2 (fun _ _ h => h) (fun _ h => h.elim) (mid_fresh HM.out) HM.out.1.bel (below_size HM.out.1.bel) (by have := HG3.out; have := HG2.out; simp; omega) ?_
            intro v60 Wd834 ho hb hg hat
            have HM1 := Aside0.mk (HM.out.appP ho hb hg hat)
            have HR8' := Aside0.mk (Kd.R_grown1 HR8.out rfl hg (by intro e; exact HO8.out (e.symm ▸ rfl)))
            clear HR8
            have HR8 := HR8'
            clear HR8'
            clear HR3 HM
            have HM := HM1
            clear HM1 ho hb hg hat
            refine hK.out _ _ (mid_held HM.out) (fun hHeld => ?_)
            clear hK K
            refine norm_ (a' := ?_) ?_ ?_
            rotate_left
            · show Act.put _ (some 60) _ = _
              simp only [Act.put, List.setIfInBounds_toArray, List.set_cons_zero, List.set_cons_succ, i64_w, i32_w]
              rfl
            refine pure_ (i := 10) (N := some 66) (v := ?_) (a' := ?_) #[true, true, true, true, true, true, true, true, true, false, true, false, false, false] rfl rfl (by kernel_rfl) (fun _ _ _ h => h) (Or.inl ⟨by rfl, ?_⟩) ?_ ?_
            rotate_left
            · intro w'
              go_simp
              with_reducible rfl
            rotate_left
            · simp only [Act.put, List.setIfInBounds_toArray, List.set_cons_zero, List.set_cons_succ, i64_w, i32_w]
              rfl
            exact norm_ (by simp only [putAll, Act.put, List.setIfInBounds_toArray, List.set_cons_zero, List.set_cons_succ]) (hCont (g3, g8, v60) _ ⟨HM.out, HR8.out, HQ8.out⟩)
        rintro ⟨g3, g8, v60⟩ W1 ⟨hm, hr, hq⟩
        dsimp only at hm hr hq
        have HM := Aside0.mk hm
        have HR8 := Aside0.mk hr
        have hHeld : W1.cell? ⟨w4.heap.size + 1 + 1, 1, none⟩ = some (.slice Ap path.length cp) ∧ W1.cell? ⟨w4.heap.size + 1 + 1, 2, none⟩ = some (.slice Au used.length cu) := mid_held HM.out
        clear hm hr hq
        refine norm_ (a' := ?_) ?_ ?_
        rotate_left
        · simp only [putAll, Act.put, List.setIfInBounds_toArray, List.set_cons_zero, List.set_cons_succ]
          rfl
        refine one_ (i := 9) (N := some 65) #[true, true, true, true, true, true, true, true, true, true, true, false, false, false] rfl rfl (by kernel_rfl) (by decide) (fun K hK => ?_)
        refine Kd.R_append_rows_step (Kd.int .i64) (w0 := w) w.heap.size (by rfl) (.tmp 62) (.tmp 64) 29 3 (.int .i64 0) 8 rfl Tryz.underlying29 info3 rfl (by decide) (by omega) (.slice Au used.length cu) used [i] _ _ _ (fun k => some k ≠ v60.ownBlock ∧ k ≠ w4.heap.size + 1 + 1 + 1 + 1 ∧ k ≠ b1 ∧ k ≠ b2) (fun _ => False) rfl rfl HM.out.1.u (Kd.R_reads' HR8.out).2.2 (fun _ _ h => h) (fun _ h => h.elim) (mid_freshU HM.out) HM.out.1.bel (below_size HM.out.1.bel) (by have := HG1.out; have := HG2.out; simp; omega) ?_
        intro v65 W2 ho hb hg hat
        have HM1 := Aside0.mk (HM.out.appU ho hb hg hat)
        clear HR8 HM
        have HM := HM1
        clear HM1 ho hb hg hat hHeld
        refine hK.out _ _ (mid_held HM.out) (fun hHeld => ?_)
        clear hK K
        refine norm_ (a' := ?_) ?_ ?_
        rotate_left
        · show Act.put _ (some 65) _ = _
          simp only [Act.put, List.setIfInBounds_toArray, List.set_cons_zero, List.set_cons_succ, i64_w, i32_w]
          rfl
        obtain ⟨p', hp'⟩ : ∃ p', path ++ [tn] = p' := ⟨_, rfl⟩
        obtain ⟨u', hu'⟩ : ∃ u', used ++ [i] = u' := ⟨_, rfl⟩
        rw [hp', hu'] at HM
        have HP := Aside0.mk hp'
        have HU := Aside0.mk hu'
        clear hp' hu'
        obtain ⟨Ap', cp', rfl⟩ : ∃ A c, v60 = .slice A p'.length c := (Kd.R_reads HM.out.1.p).elim fun A h => h.elim fun c h => ⟨A, c, h.1⟩
        obtain ⟨Au', cu', rfl⟩ : ∃ A c, v65 = .slice A u'.length c := (Kd.R_reads HM.out.1.u).elim fun A h => h.elim fun c h => ⟨A, c, h.1⟩
        have hneR : w.heap.size ≠ w4.heap.size + 1 + 1 ∧ w.heap.size + 1 ≠ w4.heap.size + 1 + 1 ∧ w.heap.size + 1 + 1 ≠ w4.heap.size + 1 + 1 ∧ w4.heap.size ≠ w4.heap.size + 1 + 1 ∧ b1 ≠ w4.heap.size + 1 + 1 ∧ b2 ≠ w4.heap.size + 1 + 1 ∧ w4.heap.size + 1 + 1 + 1 ≠ w4.heap.size + 1 + 1 ∧ w4.heap.size + 1 + 1 + 1 + 1 ≠ w4.heap.size + 1 + 1 := ⟨by omega, by omega, by omega, by omega, by omega, by omega, by omega, by omega⟩
        have fR1 : W2.frozen? ⟨w4.heap.size + 1 + 1, 1, none⟩ = false := blk_frozen HM.out.1.rb 1
        have fR2 : W2.frozen? ⟨w4.heap.size + 1 + 1, 2, none⟩ = false := blk_frozen HM.out.1.rb 2
        have HM1 := Aside0.mk (Mid.put HM.out hneR (by omega) 1 (.slice Ap' p'.length cp') _ _ rfl)
        have HM2 := Aside0.mk (Mid.put HM1.out hneR (by omega) 2 (.slice Au' u'.length cu') _ _ rfl)
        obtain ⟨hs1, hs2⟩ := hHeld
        refine last_ (i := 11) (N := none) #[true, true, true, true, true, true, true, true, true, true, true, true, false, false] rfl rfl (by kernel_rfl) (by decide) (fun K hK => ?_)
        refine skip_ (w1 := ?_) (by rfl) rfl ?_ ?_
        rotate_left
        · go_simp
          rfl
        refine hK.out _ _ ?_
        clear hK K
        refine pure_ (i := 12) (N := some 67) (v := ?_) (a' := ?_) #[true, true, true, true, true, true, true, true, true, true, true, true, true, false] rfl rfl (by kernel_rfl) (fun _ _ _ h => h) (Or.inl ⟨by rfl, ?_⟩) ?_ ?_
        rotate_left
        · intro w'
          go_simp
          with_reducible rfl
        rotate_left
        · simp only [Act.put, List.setIfInBounds_toArray, List.set_cons_zero, List.set_cons_succ, i64_w, i32_w]
          rfl
        refine last_ (i := 13) (N := none) #[true, true, true, true, true, true, true, true, true, true, true, true, true, true] rfl rfl (by kernel_rfl) (by decide) (fun K hK => ?_)
        refine skip_ (w1 := ?_) (by rfl) rfl ?_ ?_
        rotate_left
        · go_simp
          rfl
        refine hK.out _ _ ?_
        clear hK K
        refine done_ (by kernel_rfl) ?_
        clear HM HM1 hs1 hs2 fR1 fR2
        have HM := HM2
        clear HM2
        generalize hW4 : (W2.setCell ⟨w4.heap.size + 1 + 1, 1, none⟩ (.slice Ap' p'.length cp')).setCell ⟨w4.heap.size + 1 + 1, 2, none⟩ (.slice Au' u'.length cu') = W4 at HM ⊢
        clear hW4
        obtain ⟨⟨k80, f80⟩, ⟨k81, f81⟩, ⟨k82, f82⟩, k90, f90⟩ := known_11 HM.out.1.r8 HM.out.1.r9
        have kR0 : W4.cell? ⟨w4.heap.size + 1 + 1, 0, none⟩ = some (.int .i64 0) := (blk_cell HM.out.1.rb 0).trans rfl
        have kR1 : W4.cell? ⟨w4.heap.size + 1 + 1, 1, none⟩ = some (.slice Ap' p'.length cp') := (blk_cell HM.out.1.rb 1).trans rfl
        have kR2 : W4.cell? ⟨w4.heap.size + 1 + 1, 2, none⟩ = some (.slice Au' u'.length cu') := (blk_cell HM.out.1.rb 2).trans rfl
        have fR0 : W4.frozen? ⟨w4.heap.size + 1 + 1, 0, none⟩ = false := blk_frozen HM.out.1.rb 0
        cases b with
        | true =>
          have HRS := Aside0.mk (show (r1, r2, r3) = (5, p', u') by
            have h := HG5.out
            obtain ⟨m, hm⟩ : ∃ m, 6 - k = m + 1 := ⟨5 - k, by have := HG2.out; omega⟩
            rw [hm] at h
            have hne5 : ¬ used.length = 5 := by have := HG1.out; have := HK5.out; omega
            simp only [resGo, HCN.out, if_neg hne5, HT0.out, HB0.out, if_true, HP.out, HU.out] at h
            exact h.symm)
          gi_wp2
          refine ⟨HM.out.2.2.trans (sees11 _ _ _ _ _ _ _ _ _), ?_⟩
          show Done w (w.heap.size + 1) (w.heap.size + 1 + 1) (r1, r2, r3) _
          rw [HRS.out]
          exact Done.made HM.out.1 (by omega) (by omega) (by omega) (by omega) (by omega) (by omega) 5
        | false =>
          have HRS := Aside0.mk (show resGo (cnt (gOf l0 t) (cOf l1)) (cOf l1) l0 (6 - (k + 1)) p' u' tn = (r1, r2, r3) by
            have h := HG5.out
            obtain ⟨m, hm⟩ : ∃ m, 6 - k = m + 1 := ⟨5 - k, by have := HG2.out; omega⟩
            rw [hm] at h
            have hne5 : ¬ used.length = 5 := by have := HG1.out; have := HK5.out; omega
            simp only [resGo, HCN.out, if_neg hne5, HT0.out, HB0.out, HP.out, HU.out] at h
            rw [show 6 - (k + 1) = m by omega]
            simpa using h)
          gi_wp2
          refine ⟨HM.out.2.2, HM.out.2.1, p', u', ?_, ?_, ?_, ?_, ?_, _, _, HM.out.1⟩
          · have := HG1.out; rw [← HU.out]; simp; omega
          · have := HG2.out; have := HK5.out; omega
          · have := HG3.out; rw [← HP.out]; simp; omega
          · rw [← HP.out]; simp [HT0.out]
          · show resGo _ _ _ (6 - (k + 1)) _ _ (toOf l0 i) = _
            rw [HT0.out]
            exact HRS.out
    case done =>
      rintro D W hD ⟨path, used, x, g1, g2, g3, g4, vp, vu, hC⟩ hk
      obtain ⟨Ap, cp, rfl, hcp, hrp⟩ := Kd.R_reads hC.p
      obtain ⟨Au, cu, rfl, hcu, hru⟩ := Kd.R_reads hC.u
      clear hru hcu
      obtain ⟨pl, hpl⟩ : ∃ pl, path.length = pl + 1 := by
        cases path with
        | nil => simp at g2
        | cons a b => exact ⟨b.length, rfl⟩
      obtain ⟨ad, hA, e0⟩ := Kd.at_int hrp (pl : Int) (by omega) (by omega)
      subst hA
      rw [Int.toNat_natCast] at e0
      have hx : rd path pl = x := by
        rw [List.getLast?_eq_getElem?, hpl] at g2
        simp only [Nat.add_sub_cancel] at g2
        simp [rd, g2]
      rw [hx] at e0
      obtain ⟨F, hM, hF⟩ := hC.con
      have HMV := Aside0.mk hM.drew
      have HFX := Aside0.mk (hF x)
      have HKY := Aside0.mk (key3 g3)
      have HCC := Aside0.mk hC
      have HKD := Aside0.mk hk
      have HG4 := Aside0.mk g4
      have HPL := Aside0.mk hpl
      have HCX := Aside0.mk (show (F (.int .i64 x)).getD (.int .i64 0) = .int .i64 ((cOf l1 x).getD 0) by rw [HFX.out]; cases cOf l1 x <;> rfl)
      obtain ⟨⟨k80, f80⟩, ⟨k81, f81⟩, ⟨k82, f82⟩, k90, f90⟩ := known_11 hC.r8 hC.r9
      have kM2 : W.cell? ⟨w4.heap.size, 2, none⟩ = some (.map (some b2)) := (blk_cell hC.mo 2).trans rfl
      have kR0 : W.cell? ⟨w4.heap.size + 1 + 1, 0, none⟩ = some (.int .i64 0) := (blk_cell hC.rb 0).trans rfl
      have kR1 : W.cell? ⟨w4.heap.size + 1 + 1, 1, none⟩ = some (.slice (some ad) path.length cp) := (blk_cell hC.rb 1).trans rfl
      have kR2 : W.cell? ⟨w4.heap.size + 1 + 1, 2, none⟩ = some (.slice Au used.length cu) := (blk_cell hC.rb 2).trans rfl
      have fR0 : W.frozen? ⟨w4.heap.size + 1 + 1, 0, none⟩ = false := blk_frozen hC.rb 0
      clear hC hk g4 hM hF g2 g3 hrp HFX hx
      rw [hpl] at kR1
      have hpl5 : pl < 6 := by omega
      clear hpl g1
      generalize (cOf l1 x).getD 0 = cx at *
      go_wp2
      refine wp_region_still_tail 13 (by kernel_rfl) (by kernel_rfl) ?_
      simp only [List.take_succ_cons, List.take_zero, List.drop_succ_cons, List.drop_zero]
      have hwr : IntKind.i64.wrap (pl : Int) = pl := IntWalk.i64_in _ ⟨by omega, by omega⟩
      have hin : 0 ≤ (pl : Int) ∧ (pl : Int) < pl + 1 := ⟨by omega, by omega⟩
      have hlk := HMV.out.look keyed3 Tryz.underlying71 (zero3 _) HKY.out
      rw [HCX.out] at hlk
      repeat still_step
      refine wpStill_nil ?_
      change wpList _ _ _ _ _ W.drew
      clear hlk hin hwr
      go_wp2
      have HDN := Aside0.mk (Done.below (Done.made HCC.out (by omega) (by omega) (by omega) (by omega) (by omega) (by omega) (max cx 1)) (below_drew1 (Below.refl _ _)))
      rw [HPL.out] at HDN
      have HKD2 := Aside0.mk (show (put11 (W.setCell ⟨w4.heap.size + 1 + 1, 0, none⟩ (.int .i64 (max cx 1))) (w.heap.size + 1) (w.heap.size + 1 + 1) (.int .i64 (max cx 1)) (.slice (some ad) (pl + 1) cp) (.slice Au used.length cu) (.int .i64 0)).drew.heap[D]? = some (.deferred (some [])) by
        show (put11 (W.setCell ⟨w4.heap.size + 1 + 1, 0, none⟩ (.int .i64 (max cx 1))) (w.heap.size + 1) (w.heap.size + 1 + 1) (.int .i64 (max cx 1)) (.slice (some ad) (pl + 1) cp) (.slice Au used.length cu) (.int .i64 0)).heap[D]? = some (.deferred (some []))
        unfold put11
        rw [Below.heap_setCell _ _ _ D (by simp only; omega), Below.heap_setCell _ _ _ D (by simp only; omega), Below.heap_setCell _ _ _ D (by simp only; omega), Below.heap_setCell _ _ _ D (by simp only; omega), Below.heap_setCell _ _ _ D (by simp only; omega)]
        exact HKD.out)
      have HD2 := Aside0.mk (Done.shut HDN.out HKD2.out (by omega))
      have hg4 := HG4.out
      simp only [Prod.mk.injEq] at hg4
      obtain ⟨rfl, rfl, rfl⟩ := hg4
      refine ⟨by simp, .inl ⟨_, _, rfl, run_takeDeferred HKD2.out, ?_⟩⟩
      obtain ⟨vp, vu, h8, h9, hp, hu, hb⟩ := HD2.out
      exact ⟨_, results_11 _ _ _ _ _ _ _ _ rfl rfl h8 h9, vp, vu, rfl, hp, hu, hb⟩
    case stop =>
      intro D c W hD hIx hk
      cases c <;> first
      | exact hIx.elim
      | skip
      have hIx2 := Done.shut hIx hk (by omega)
      have HI := Aside0.mk hIx2
      have HKD := Aside0.mk hk
      clear hIx hIx2 hk
      gi_wp2
      refine ⟨by simp, .inl ⟨_, _, rfl, run_takeDeferred HKD.out, ?_⟩⟩
      obtain ⟨vp, vu, h8, h9, hp, hu, hb⟩ := HI.out
      exact ⟨_, results_11 _ _ _ _ _ _ _ _ rfl rfl h8 h9, vp, vu, rfl, hp, hu, hb⟩
end Go.Proofs.YtkfejgdeknemaaaGreatDoor.Fw
end
section
open Go.Proofs.YtkfejgdeknemaaaGreatDoor.Z
namespace Go.Proofs.YtkfejgdeknemaaaGreatDoor.Fw
open Go.RowKit Go.Proofs.YtkfejgdeknemaaaGreatDoorW.PrintWords Go.Proofs.YtkfejgdeknemaaaGreatDoorW.PrintLast Go.Proofs.YtkfejgdeknemaaaGreatDoorW.PrintMore
attribute [local go_sem] max2_int min2_int max_two min_two max_three min_three max_four min_four
set_option linter.unusedVariables false
set_option linter.unusedSimpArgs false
def slices_Equal_int_int.l0 : Nat → List Int → List Int → Int → Int → Option (Bool)
 | 0, _, _, _, _ => none
 | k + 1, x0, x1, x12, x13 => if x13 < x12 then (if 0 ≤ x13 then (if x13 < (x0.length : Int) then (if x13 < (x1.length : Int) then (if (rd x0 x13) = (rd x1 x13) then (slices_Equal_int_int.l0 k x0 x1 x12 (wrap64 (x13 + 1))) else (some false)) else (none)) else (none)) else (none)) else (some true)
def slices_Equal_int_int.f (k : Nat) (l0 : List Int) (l1 : List Int) : Option (Bool) := if (l0.length : Int) = (l1.length : Int) then (slices_Equal_int_int.l0 k l0 l1 (l0.length : Int) 0) else (some false)
theorem slices_Equal_int_int.mono_l : ∀ k, (∀ y0 y1 y2 y3, LeO (slices_Equal_int_int.l0 k y0 y1 y2 y3) (slices_Equal_int_int.l0 (k + 1) y0 y1 y2 y3))
 | 0 => fun _ _ _ _ r h => by simp [slices_Equal_int_int.l0] at h
 | k + 1 => by
  have ih0 := slices_Equal_int_int.mono_l k
  ·intro y0 y1 y2 y3
   unfold slices_Equal_int_int.l0
   repeat' first
   | (with_reducible exact ih0 _ _ _ _)
   | (with_reducible exact LeO.refl _)
   | (with_reducible exact LeO.none _)
   | (with_reducible refine LeO.ite ?_ ?_)
   | (with_reducible refine LeO.bind ?_ (fun _ => ?_))
   | exact ih0 _ _ _ _
   | exact LeO.none _
   | refine LeO.ite ?_ ?_
   | refine LeO.bind ?_ (fun _ => ?_)
theorem slices_Equal_int_int.mono : ∀ a0 a1 k, LeO (slices_Equal_int_int.f k a0 a1) (slices_Equal_int_int.f (k + 1) a0 a1) := by
 intro a0 a1 k
 have ih0 := slices_Equal_int_int.mono_l k
 unfold slices_Equal_int_int.f
 repeat' first
  | (with_reducible exact ih0 _ _ _ _)
  | (with_reducible exact LeO.refl _)
  | (with_reducible exact LeO.none _)
  | (with_reducible refine LeO.ite ?_ ?_)
  | (with_reducible refine LeO.bind ?_ (fun _ => ?_))
  | exact ih0 _ _ _ _
  | exact LeO.none _
  | refine LeO.ite ?_ ?_
  | refine LeO.bind ?_ (fun _ => ?_)
set_option maxHeartbeats 8000000 in
set_option maxRecDepth 100000 in
theorem slices_Equal_int_int.calls (k : Nat) (A0 : Option Addr) (c0 : Nat) (l0 : List Int) (A1 : Option Addr) (c1 : Nat) (l1 : List Int) (r : Bool) (w : World) (hr0 : Kd.C (Kd.int .i64) w A0 l0.length l0) (hc0 : l0.length ≤ c0) (hr1 : Kd.C (Kd.int .i64) w A1 l1.length l1) (hc1 : l1.length ≤ c1) (h : slices_Equal_int_int.f k l0 l1 = some r) :
 Calls Tryz.prog 34 #[.slice A0 l0.length c0, .slice A1 l1.length c1] w fun e w' => e = .returned (.bool r) ∧ Drawn0 w w' := by
 have HR0 := Aside0.mk hr0
 have HC0 := Aside0.mk hc0
 clear hr0 hc0
 have HR1 := Aside0.mk hr1
 have HC1 := Aside0.mk hc1
 clear hr1 hc1
 have H : (if (l0.length : Int) = (l1.length : Int) then (slices_Equal_int_int.l0 k l0 l1 (l0.length : Int) 0) else (some false)) = some r := h
 clear h
 by_cases c3 : (l0.length : Int) = (l1.length : Int)
 rotate_left
 ·rw [if_neg c3] at H
  have c3b0 : ((l0.length : Int) == (l1.length : Int)) = false := beq_eq_false_iff_ne.mpr c3
  have c3b1 : ((l0.length : Int) != (l1.length : Int)) = true := bne_iff_ne.mpr c3
  have c3b2 : (l0.length == l1.length) = false := by first | simpa using c3 | (simp at c3 ⊢; omega)
  obtain rfl := Option.some.inj H
  go_enter Tryz.func34, Tryz.ntmps34
  go_wp2
  repeat (go_quiet (fail); try go_wp2)
  go_ret
  exact ⟨zq2, zq3⟩
 rw [if_pos c3] at H
 have c3b0 : ((l0.length : Int) == (l1.length : Int)) = true := beq_iff_eq.mpr c3
 have c3b1 : ((l0.length : Int) != (l1.length : Int)) = false := bne_eq_false_iff_eq.mpr c3
 have c3b2 : (l0.length == l1.length) = true := by first | simpa using c3 | (simp at c3 ⊢; omega)
 clear c3
 have H' := Aside0.mk H
 clear H
 go_enter Tryz.func34, Tryz.ntmps34
 go_wp2
 repeat (go_quiet (fail); try go_wp2)
 go_loopg [13] k (fun kq v13 w' => ∃ (x13_1 : Int), v13 = .int .i64 x13_1 ∧ Aside0 (slices_Equal_int_int.l0 kq l0 l1 (l0.length : Int) x13_1 = some r) ∧ Aside0 (kq ≤ k) ∧ Drawn0 w w')
 case atStart => exact ⟨(0), (zq2), H', ⟨Nat.le_refl _⟩, zq3⟩
 case round =>
  clear H'
  try clear c1
  try clear p2
  try clear c3
  try clear c3b0
  try clear c3b1
  try clear c3b2
  obtain ⟨x13_1, rfl, HA, HK1, ⟨m1, rfl⟩⟩ := hrel
  cases gk with
  | zero => exact absurd HA.out (by simp [slices_Equal_int_int.l0])
  | succ k1 =>
   have H := HA.out
   clear HA
   simp only [slices_Equal_int_int.l0] at H
   by_cases c4 : x13_1 < (l0.length : Int)
   rotate_left
   ·rw [if_neg c4] at H
    have c4b0 : decide (x13_1 < (l0.length : Int)) = false := decide_eq_false c4
    clear c4
    obtain rfl := Option.some.inj H
    go_wp2
    repeat (go_quiet (fail); try go_wp2)
    go_ret
    exact ⟨zq2, zq3⟩
   rw [if_pos c4] at H
   have c4b0 : decide (x13_1 < (l0.length : Int)) = true := decide_eq_true c4
   clear c4
   by_cases c5 : 0 ≤ x13_1
   rotate_left
   ·rw [if_neg c5] at H
    exact absurd H (by simp)
   rw [if_pos c5] at H
   have c5b0 : decide (0 ≤ x13_1) = true := decide_eq_true c5
   clear c5
   by_cases c6 : x13_1 < (l0.length : Int)
   rotate_left
   ·rw [if_neg c6] at H
    exact absurd H (by simp)
   rw [if_pos c6] at H
   have c6b0 : decide (x13_1 < (l0.length : Int)) = true := decide_eq_true c6
   clear c6
   by_cases c7 : x13_1 < (l1.length : Int)
   rotate_left
   ·rw [if_neg c7] at H
    exact absurd H (by simp)
   rw [if_pos c7] at H
   have c7b0 : decide (x13_1 < (l1.length : Int)) = true := decide_eq_true c7
   clear c7
   by_cases c8 : (rd l0 x13_1) = (rd l1 x13_1)
   rotate_left
   ·rw [if_neg c8] at H
    have c8b0 : ((rd l0 x13_1) == (rd l1 x13_1)) = false := beq_eq_false_iff_ne.mpr c8
    have c8b1 : ((rd l0 x13_1) != (rd l1 x13_1)) = true := bne_iff_ne.mpr c8
    obtain rfl := Option.some.inj H
    have p107 : 0 ≤ (x13_1 : Int) := of_decide_eq_true (zq9)
    have q107 : x13_1 < (l0.length : Int) := of_decide_eq_true (zq9)
    obtain ⟨ad107, e107, hx107_0⟩ := Kd.at_int HR0.out x13_1 p107 q107
    cases e107
    replace p107 := eq_true p107
    replace q107 := eq_true q107
    have p108 : 0 ≤ (x13_1 : Int) := of_decide_eq_true (zq9)
    have q108 : x13_1 < (l1.length : Int) := of_decide_eq_true (zq9)
    obtain ⟨ad108, e108, hx108_0⟩ := Kd.at_int HR1.out x13_1 p108 q108
    cases e108
    replace p108 := eq_true p108
    replace q108 := eq_true q108
    go_wp2
    repeat (go_quiet (fail); try go_wp2)
    go_ret
    exact ⟨zq2, zq3⟩
   rw [if_pos c8] at H
   have c8b0 : ((rd l0 x13_1) == (rd l1 x13_1)) = true := beq_iff_eq.mpr c8
   have c8b1 : ((rd l0 x13_1) != (rd l1 x13_1)) = false := bne_eq_false_iff_eq.mpr c8
   clear c8
   have H' := Aside0.mk H
   clear H
   have p107 : 0 ≤ (x13_1 : Int) := of_decide_eq_true (zq9)
   have q107 : x13_1 < (l0.length : Int) := of_decide_eq_true (zq9)
   obtain ⟨ad107, e107, hx107_0⟩ := Kd.at_int HR0.out x13_1 p107 q107
   cases e107
   replace p107 := eq_true p107
   replace q107 := eq_true q107
   have p108 : 0 ≤ (x13_1 : Int) := of_decide_eq_true (zq9)
   have q108 : x13_1 < (l1.length : Int) := of_decide_eq_true (zq9)
   obtain ⟨ad108, e108, hx108_0⟩ := Kd.at_int HR1.out x13_1 p108 q108
   cases e108
   replace p108 := eq_true p108
   replace q108 := eq_true q108
   go_wp2
   repeat (go_quiet (fail); try go_wp2)
   go_roundg k1
   case measure => have := HK1.out; omega
   case rel => exact ⟨(wrap64 (x13_1 + 1)), (zq2), H', ⟨zq10⟩, zq3⟩
def forward_Check.f (k : Nat) (l0 : List (S41)) (l1 : List (S37)) (a2 : Int) (a3 : Int) (a4_0 : Int) (l4_1 : List Int) (l4_2 : List Int) : Option (Bool) := (forward_Resolve.f l0 l1 a2 a3).bind fun bt110 => (if bt110.2.2.2 = 0 then (if a4_0 = bt110.1 then ((slices_Equal_int_int.f k l4_1 bt110.2.1).bind fun t119 => (if t119 = true then ((slices_Equal_int_int.f k l4_2 bt110.2.2.1).bind fun t120 => (some t120)) else (some false))) else (some false)) else (some false))
theorem forward_Check.mono : ∀ a0 a1 a2 a3 a4 a5 a6 k, LeO (forward_Check.f k a0 a1 a2 a3 a4 a5 a6) (forward_Check.f (k + 1) a0 a1 a2 a3 a4 a5 a6) := by
 intro a0 a1 a2 a3 a4 a5 a6 k
 unfold forward_Check.f
 repeat' first
  | (with_reducible exact slices_Equal_int_int.mono _ _ _)
  | (with_reducible exact LeO.refl _)
  | (with_reducible exact LeO.none _)
  | (with_reducible refine LeO.ite ?_ ?_)
  | (with_reducible refine LeO.bind ?_ (fun _ => ?_))
  | exact slices_Equal_int_int.mono _ _ _
  | exact LeO.none _
  | refine LeO.ite ?_ ?_
  | refine LeO.bind ?_ (fun _ => ?_)
set_option maxHeartbeats 8000000 in
set_option maxRecDepth 100000 in
theorem forward_Check.calls (k : Nat) (A0 : Option Addr) (c0 : Nat) (l0 : List (S41)) (A1 : Option Addr) (c1 : Nat) (l1 : List (S37)) (a2 : Int) (a3 : Int) (a4_0 : Int) (A4_1 : Option Addr) (c4_1 : Nat) (l4_1 : List Int) (A4_2 : Option Addr) (c4_2 : Nat) (l4_2 : List Int) (r : Bool) (w : World) (hr0 : Kd.C k41 w A0 l0.length l0) (hc0 : l0.length ≤ c0) (hr1 : Kd.C k37 w A1 l1.length l1) (hc1 : l1.length ≤ c1) (hr4_1 : Kd.C (Kd.int .i64) w A4_1 l4_1.length l4_1) (hc4_1 : l4_1.length ≤ c4_1) (hr4_2 : Kd.C (Kd.int .i64) w A4_2 l4_2.length l4_2) (hc4_2 : l4_2.length ≤ c4_2) (h : forward_Check.f k l0 l1 a2 a3 a4_0 l4_1 l4_2 = some r) :
 Calls Tryz.prog 12 #[.slice A0 l0.length c0, .slice A1 l1.length c1, .int .i64 a2, .int .i64 a3, .agg #[.int .i64 a4_0, .slice A4_1 l4_1.length c4_1, .slice A4_2 l4_2.length c4_2]] w fun e w' => e = .returned (.bool r) ∧ Below w.heap.size w w' := by
 have hu31 := Tryz.underlying31
 have HR0 := Aside0.mk hr0
 have HC0 := Aside0.mk hc0
 clear hr0 hc0
 have HR1 := Aside0.mk hr1
 have HC1 := Aside0.mk hc1
 clear hr1 hc1
 have HR4_1 := Aside0.mk hr4_1
 have HC4_1 := Aside0.mk hc4_1
 clear hr4_1 hc4_1
 have HR4_2 := Aside0.mk hr4_2
 have HC4_2 := Aside0.mk hc4_2
 clear hr4_2 hc4_2
 have HB := Aside0.mk (Below.refl w.heap.size w)
 have H : ((forward_Resolve.f l0 l1 a2 a3).bind fun bt110 => (if bt110.2.2.2 = 0 then (if a4_0 = bt110.1 then ((slices_Equal_int_int.f k l4_1 bt110.2.1).bind fun t119 => (if t119 = true then ((slices_Equal_int_int.f k l4_2 bt110.2.2.1).bind fun t120 => (some t120)) else (some false))) else (some false)) else (some false))) = some r := h
 clear h
 replace H := Option.bind_eq_some_iff.mp H
 obtain ⟨⟨t110, t111, t114, t117⟩, A60, H⟩ := H
 try dsimp only at H
 have A6 := Aside0.mk A60
 clear A60
 by_cases c7 : t117 = 0
 rotate_left
 ·rw [if_neg c7] at H
  have c7b0 : (t117 == 0) = false := beq_eq_false_iff_ne.mpr c7
  have c7b1 : (t117 != 0) = true := bne_iff_ne.mpr c7
  obtain rfl := Option.some.inj H
  go_enter Tryz.func12, Tryz.ntmps12
  go_wp2_with (first | ((with_reducible refine gate_dst (N := 9) rfl ?_); refine box_event ?hg (N := 9) ?hd (cs := #[.int .i64 a4_0, .slice A4_1 l4_1.length c4_1, .slice A4_2 l4_2.length c4_2]) (t := 31) ?hr ?_; (case hd => rfl); (case hg => rfl); (case hr => exact zq4); intro gb109 hg w36 hbox hb; have BK109 := Aside0.mk (hbox); have GW109 := Aside0.mk ((zq5 : w.heap.size ≤ gb109)); have GE109 := Aside0.mk ((zq5 : w.heap.size ≤ gb109)); replace HB := Aside0.mk (below_step (zW HB) hb); clear hb hbox hg) | ((with_reducible refine gate_callee (f := 11) rfl ?_); refine goesL_ (some 18) rfl rfl Tryz.func11 (by kernel_rfl) rfl #[.slice A0 l0.length c0, .slice A1 l1.length c1, .int .i64 a2, .int .i64 a3] rfl zG ?_; (with_reducible refine (forward_Resolve.calls _ _ l0 _ _ l1 a2 a3 t110 t111 t114 t117 _ ?side1 ?side2 ?side3 ?side4 A6.out).mono ?_); (case side1 => exact zq11); (case side2 => exact zq12); (case side3 => exact zq13); (case side4 => exact HC1.out); rintro e w37 ⟨v112, v115, rfl, ho0, ho1, hb⟩; refine ⟨_, rfl, ?_⟩; have HO113 := Aside0.mk (Kd.R_lower ho0 (below_size (zW HB))); have HO116 := Aside0.mk (Kd.R_lower ho1 (below_size (zW HB))); replace BK109 := Aside0.mk (blk_below (zB BK109) hb); replace HB := Aside0.mk (below_step (zW HB) hb); (try clear hb); (try clear hb2); (try clear hk); (try clear hi); (try clear ho0); (try clear ho1)) | ((with_reducible refine gate_dst (N := 11) rfl ?_); refine box_event ?hg (N := 11) ?hd (cs := #[.int .i64 0, .slice none 0 0, .slice none 0 0]) (t := 31) ?hr ?_; (case hd => rfl); (case hg => rfl); (case hr => exact zq4); intro gb118 hg w38 hbox hb; replace HO113 := Aside0.mk (Kd.R_below (zR HO113) hb); replace HO116 := Aside0.mk (Kd.R_below (zR HO116) hb); have BK118 := Aside0.mk (hbox); have GW118 := Aside0.mk ((zq5 : w.heap.size ≤ gb118)); have GE118 := Aside0.mk ((zq5 : w.heap.size ≤ gb118)); replace HB := Aside0.mk (below_step (zW HB) hb); have NB109_118 := Aside0.mk ((zq14 : gb109 ≠ gb118)); have NB118_109 := Aside0.mk ((zq15 : gb118 ≠ gb109)); replace BK109 := Aside0.mk (blk_below (zB BK109) hb); clear hb hbox hg; have hnb39 := NB118_109.out; have hnc39 := NB109_118.out; have hcz40_0 : w38.cell? ⟨gb118, 0, none⟩ = some (.int .i64 0) := (blk_cell BK118.out 0).trans rfl; have hcz40_1 : w38.cell? ⟨gb118, 1, none⟩ = some (.slice none 0 0) := (blk_cell BK118.out 1).trans rfl; have hcz40_2 : w38.cell? ⟨gb118, 2, none⟩ = some (.slice none 0 0) := (blk_cell BK118.out 2).trans rfl; have hfz40_0 := blk_frozen BK118.out 0; have hfz40_1 := blk_frozen BK118.out 1; have hfz40_2 := blk_frozen BK118.out 2; obtain ⟨Ao41, co41, eo41⟩ := Kd.R_slice HO113.out; subst eo41; obtain ⟨Ao42, co42, eo42⟩ := Kd.R_slice HO116.out; subst eo42))
  go_ret
  exact ⟨zq6, zq16⟩
 rw [if_pos c7] at H
 have c7b0 : (t117 == 0) = true := beq_iff_eq.mpr c7
 have c7b1 : (t117 != 0) = false := bne_eq_false_iff_eq.mpr c7
 clear c7
 by_cases c8 : a4_0 = t110
 rotate_left
 ·rw [if_neg c8] at H
  have c8b0 : (a4_0 == t110) = false := beq_eq_false_iff_ne.mpr c8
  have c8b1 : (a4_0 != t110) = true := bne_iff_ne.mpr c8
  obtain rfl := Option.some.inj H
  go_enter Tryz.func12, Tryz.ntmps12
  go_wp2_with (first | ((with_reducible refine gate_dst (N := 9) rfl ?_); refine box_event ?hg (N := 9) ?hd (cs := #[.int .i64 a4_0, .slice A4_1 l4_1.length c4_1, .slice A4_2 l4_2.length c4_2]) (t := 31) ?hr ?_; (case hd => rfl); (case hg => rfl); (case hr => exact zq4); intro gb109 hg w28 hbox hb; have BK109 := Aside0.mk (hbox); have GW109 := Aside0.mk ((zq5 : w.heap.size ≤ gb109)); have GE109 := Aside0.mk ((zq5 : w.heap.size ≤ gb109)); replace HB := Aside0.mk (below_step (zW HB) hb); clear hb hbox hg) | ((with_reducible refine gate_callee (f := 11) rfl ?_); refine goesL_ (some 18) rfl rfl Tryz.func11 (by kernel_rfl) rfl #[.slice A0 l0.length c0, .slice A1 l1.length c1, .int .i64 a2, .int .i64 a3] rfl zG ?_; (with_reducible refine (forward_Resolve.calls _ _ l0 _ _ l1 a2 a3 t110 t111 t114 t117 _ ?side1 ?side2 ?side3 ?side4 A6.out).mono ?_); (case side1 => exact zq11); (case side2 => exact zq12); (case side3 => exact zq13); (case side4 => exact HC1.out); rintro e w29 ⟨v112, v115, rfl, ho0, ho1, hb⟩; refine ⟨_, rfl, ?_⟩; have HO113 := Aside0.mk (Kd.R_lower ho0 (below_size (zW HB))); have HO116 := Aside0.mk (Kd.R_lower ho1 (below_size (zW HB))); replace BK109 := Aside0.mk (blk_below (zB BK109) hb); replace HB := Aside0.mk (below_step (zW HB) hb); (try clear hb); (try clear hb2); (try clear hk); (try clear hi); (try clear ho0); (try clear ho1)) | ((with_reducible refine gate_dst (N := 11) rfl ?_); refine box_event ?hg (N := 11) ?hd (cs := #[.int .i64 0, .slice none 0 0, .slice none 0 0]) (t := 31) ?hr ?_; (case hd => rfl); (case hg => rfl); (case hr => exact zq4); intro gb118 hg w30 hbox hb; replace HO113 := Aside0.mk (Kd.R_below (zR HO113) hb); replace HO116 := Aside0.mk (Kd.R_below (zR HO116) hb); have BK118 := Aside0.mk (hbox); have GW118 := Aside0.mk ((zq5 : w.heap.size ≤ gb118)); have GE118 := Aside0.mk ((zq5 : w.heap.size ≤ gb118)); replace HB := Aside0.mk (below_step (zW HB) hb); have NB109_118 := Aside0.mk ((zq14 : gb109 ≠ gb118)); have NB118_109 := Aside0.mk ((zq15 : gb118 ≠ gb109)); replace BK109 := Aside0.mk (blk_below (zB BK109) hb); clear hb hbox hg; have hnb31 := NB118_109.out; have hnc31 := NB109_118.out; have hcz32_0 : w30.cell? ⟨gb118, 0, none⟩ = some (.int .i64 0) := (blk_cell BK118.out 0).trans rfl; have hcz32_1 : w30.cell? ⟨gb118, 1, none⟩ = some (.slice none 0 0) := (blk_cell BK118.out 1).trans rfl; have hcz32_2 : w30.cell? ⟨gb118, 2, none⟩ = some (.slice none 0 0) := (blk_cell BK118.out 2).trans rfl; have hfz32_0 := blk_frozen BK118.out 0; have hfz32_1 := blk_frozen BK118.out 1; have hfz32_2 := blk_frozen BK118.out 2; obtain ⟨Ao33, co33, eo33⟩ := Kd.R_slice HO113.out; subst eo33; obtain ⟨Ao34, co34, eo34⟩ := Kd.R_slice HO116.out; subst eo34; have hcz35_0 : w30.cell? ⟨gb109, 0, none⟩ = some (.int .i64 a4_0) := (blk_cell BK109.out 0).trans rfl; have hcz35_1 : w30.cell? ⟨gb109, 1, none⟩ = some (.slice A4_1 l4_1.length c4_1) := (blk_cell BK109.out 1).trans rfl; have hcz35_2 : w30.cell? ⟨gb109, 2, none⟩ = some (.slice A4_2 l4_2.length c4_2) := (blk_cell BK109.out 2).trans rfl; have hfz35_0 := blk_frozen BK109.out 0; have hfz35_1 := blk_frozen BK109.out 1; have hfz35_2 := blk_frozen BK109.out 2))
  go_ret
  exact ⟨zq6, zq16⟩
 rw [if_pos c8] at H
 have c8b0 : (a4_0 == t110) = true := beq_iff_eq.mpr c8
 have c8b1 : (a4_0 != t110) = false := bne_eq_false_iff_eq.mpr c8
 clear c8
 replace H := Option.bind_eq_some_iff.mp H
 obtain ⟨t119, A90, H⟩ := H
 try dsimp only at H
 have A9 := Aside0.mk A90
 clear A90
 by_cases c10 : t119 = true
 rotate_left
 ·replace c10 := Bool.eq_false_iff.mpr c10
  subst c10
  rw [if_neg (show ¬ (false = true) by decide)] at H
  obtain rfl := Option.some.inj H
  go_enter Tryz.func12, Tryz.ntmps12
  go_wp2_with (first | ((with_reducible refine gate_dst (N := 9) rfl ?_); refine box_event ?hg (N := 9) ?hd (cs := #[.int .i64 a4_0, .slice A4_1 l4_1.length c4_1, .slice A4_2 l4_2.length c4_2]) (t := 31) ?hr ?_; (case hd => rfl); (case hg => rfl); (case hr => exact zq4); intro gb109 hg w20 hbox hb; have BK109 := Aside0.mk (hbox); have GW109 := Aside0.mk ((zq5 : w.heap.size ≤ gb109)); have GE109 := Aside0.mk ((zq5 : w.heap.size ≤ gb109)); replace HB := Aside0.mk (below_step (zW HB) hb); clear hb hbox hg) | ((with_reducible refine gate_callee (f := 11) rfl ?_); refine goesL_ (some 18) rfl rfl Tryz.func11 (by kernel_rfl) rfl #[.slice A0 l0.length c0, .slice A1 l1.length c1, .int .i64 a2, .int .i64 a3] rfl zG ?_; (with_reducible refine (forward_Resolve.calls _ _ l0 _ _ l1 a2 a3 t110 t111 t114 t117 _ ?side1 ?side2 ?side3 ?side4 A6.out).mono ?_); (case side1 => exact zq11); (case side2 => exact zq12); (case side3 => exact zq13); (case side4 => exact HC1.out); rintro e w21 ⟨v112, v115, rfl, ho0, ho1, hb⟩; refine ⟨_, rfl, ?_⟩; have HO113 := Aside0.mk (Kd.R_lower ho0 (below_size (zW HB))); have HO116 := Aside0.mk (Kd.R_lower ho1 (below_size (zW HB))); replace BK109 := Aside0.mk (blk_below (zB BK109) hb); replace HB := Aside0.mk (below_step (zW HB) hb); (try clear hb); (try clear hb2); (try clear hk); (try clear hi); (try clear ho0); (try clear ho1)) | ((with_reducible refine gate_dst (N := 11) rfl ?_); refine box_event ?hg (N := 11) ?hd (cs := #[.int .i64 0, .slice none 0 0, .slice none 0 0]) (t := 31) ?hr ?_; (case hd => rfl); (case hg => rfl); (case hr => exact zq4); intro gb118 hg w22 hbox hb; replace HO113 := Aside0.mk (Kd.R_below (zR HO113) hb); replace HO116 := Aside0.mk (Kd.R_below (zR HO116) hb); have BK118 := Aside0.mk (hbox); have GW118 := Aside0.mk ((zq5 : w.heap.size ≤ gb118)); have GE118 := Aside0.mk ((zq5 : w.heap.size ≤ gb118)); replace HB := Aside0.mk (below_step (zW HB) hb); have NB109_118 := Aside0.mk ((zq14 : gb109 ≠ gb118)); have NB118_109 := Aside0.mk ((zq15 : gb118 ≠ gb109)); replace BK109 := Aside0.mk (blk_below (zB BK109) hb); clear hb hbox hg; have hnb23 := NB118_109.out; have hnc23 := NB109_118.out; have hcz24_0 : w22.cell? ⟨gb118, 0, none⟩ = some (.int .i64 0) := (blk_cell BK118.out 0).trans rfl; have hcz24_1 : w22.cell? ⟨gb118, 1, none⟩ = some (.slice none 0 0) := (blk_cell BK118.out 1).trans rfl; have hcz24_2 : w22.cell? ⟨gb118, 2, none⟩ = some (.slice none 0 0) := (blk_cell BK118.out 2).trans rfl; have hfz24_0 := blk_frozen BK118.out 0; have hfz24_1 := blk_frozen BK118.out 1; have hfz24_2 := blk_frozen BK118.out 2; obtain ⟨Ao25, co25, eo25⟩ := Kd.R_slice HO113.out; subst eo25; obtain ⟨Ao26, co26, eo26⟩ := Kd.R_slice HO116.out; subst eo26; have hcz27_0 : w22.cell? ⟨gb109, 0, none⟩ = some (.int .i64 a4_0) := (blk_cell BK109.out 0).trans rfl; have hcz27_1 : w22.cell? ⟨gb109, 1, none⟩ = some (.slice A4_1 l4_1.length c4_1) := (blk_cell BK109.out 1).trans rfl; have hcz27_2 : w22.cell? ⟨gb109, 2, none⟩ = some (.slice A4_2 l4_2.length c4_2) := (blk_cell BK109.out 2).trans rfl; have hfz27_0 := blk_frozen BK109.out 0; have hfz27_1 := blk_frozen BK109.out 1; have hfz27_2 := blk_frozen BK109.out 2) | (go_at_call 34; (with_reducible refine (slices_Equal_int_int.calls k _ _ l4_1 _ _ t111 false _ ?side1 ?side2 ?side3 ?side4 A9.out).mono ?_); (case side1 => exact Kd.C_below HR4_1.out (zW HB)); (case side2 => exact HC4_1.out); (case side3 => refine (Kd.R_reads' (e := 3) (base := w.heap.size) (ok := fun k_ => some k_ ≠ (.slice Ao26 t114.length co26 : Value).ownBlock) (n := t111.length) (c := co25) ?_).2.2; exact (by (with_reducible repeat (first | apply Kd.R_alloc | apply Kd.R_drewN | apply Kd.R_drew)); exact (Kd.R_mono (Kd.R_far (p := ⟨gb118, 2, none⟩) (Kd.R_far (p := ⟨gb118, 1, none⟩) (Kd.R_far (p := ⟨gb118, 0, none⟩) (Kd.R_types HO113.out BK118.out (by decide)) (fun _ hk => hk.2) (.int .i64 t110)) (fun _ hk => hk.2) (.slice Ao25 t111.length co25)) (fun _ hk => hk.2) (.slice Ao26 t114.length co26)) (fun _ h_ => h_.1)))); (case side4 => exact (Kd.R_reads' HO113.out).2.1); rintro e w' ⟨rfl, ⟨nd, rfl⟩⟩))
  go_ret
  exact ⟨zq6, zq16⟩
 subst c10
 rw [if_pos rfl] at H
 replace H := Option.bind_eq_some_iff.mp H
 obtain ⟨t120, A110, H⟩ := H
 try dsimp only at H
 have A11 := Aside0.mk A110
 clear A110
 obtain rfl := Option.some.inj H
 go_enter Tryz.func12, Tryz.ntmps12
 go_wp2_with (first | ((with_reducible refine gate_dst (N := 9) rfl ?_); refine box_event ?hg (N := 9) ?hd (cs := #[.int .i64 a4_0, .slice A4_1 l4_1.length c4_1, .slice A4_2 l4_2.length c4_2]) (t := 31) ?hr ?_; (case hd => rfl); (case hg => rfl); (case hr => exact zq4); intro gb109 hg w12 hbox hb; have BK109 := Aside0.mk (hbox); have GW109 := Aside0.mk ((zq5 : w.heap.size ≤ gb109)); have GE109 := Aside0.mk ((zq5 : w.heap.size ≤ gb109)); replace HB := Aside0.mk (below_step (zW HB) hb); clear hb hbox hg) | ((with_reducible refine gate_callee (f := 11) rfl ?_); refine goesL_ (some 18) rfl rfl Tryz.func11 (by kernel_rfl) rfl #[.slice A0 l0.length c0, .slice A1 l1.length c1, .int .i64 a2, .int .i64 a3] rfl zG ?_; (with_reducible refine (forward_Resolve.calls _ _ l0 _ _ l1 a2 a3 t110 t111 t114 t117 _ ?side1 ?side2 ?side3 ?side4 A6.out).mono ?_); (case side1 => exact zq11); (case side2 => exact zq12); (case side3 => exact zq13); (case side4 => exact HC1.out); rintro e w13 ⟨v112, v115, rfl, ho0, ho1, hb⟩; refine ⟨_, rfl, ?_⟩; have HO113 := Aside0.mk (Kd.R_lower ho0 (below_size (zW HB))); have HO116 := Aside0.mk (Kd.R_lower ho1 (below_size (zW HB))); replace BK109 := Aside0.mk (blk_below (zB BK109) hb); replace HB := Aside0.mk (below_step (zW HB) hb); (try clear hb); (try clear hb2); (try clear hk); (try clear hi); (try clear ho0); (try clear ho1)) | ((with_reducible refine gate_dst (N := 11) rfl ?_); refine box_event ?hg (N := 11) ?hd (cs := #[.int .i64 0, .slice none 0 0, .slice none 0 0]) (t := 31) ?hr ?_; (case hd => rfl); (case hg => rfl); (case hr => exact zq4); intro gb118 hg w14 hbox hb; replace HO113 := Aside0.mk (Kd.R_below (zR HO113) hb); replace HO116 := Aside0.mk (Kd.R_below (zR HO116) hb); have BK118 := Aside0.mk (hbox); have GW118 := Aside0.mk ((zq5 : w.heap.size ≤ gb118)); have GE118 := Aside0.mk ((zq5 : w.heap.size ≤ gb118)); replace HB := Aside0.mk (below_step (zW HB) hb); have NB109_118 := Aside0.mk ((zq14 : gb109 ≠ gb118)); have NB118_109 := Aside0.mk ((zq15 : gb118 ≠ gb109)); replace BK109 := Aside0.mk (blk_below (zB BK109) hb); clear hb hbox hg; have hnb15 := NB118_109.out; have hnc15 := NB109_118.out; have hcz16_0 : w14.cell? ⟨gb118, 0, none⟩ = some (.int .i64 0) := (blk_cell BK118.out 0).trans rfl; have hcz16_1 : w14.cell? ⟨gb118, 1, none⟩ = some (.slice none 0 0) := (blk_cell BK118.out 1).trans rfl; have hcz16_2 : w14.cell? ⟨gb118, 2, none⟩ = some (.slice none 0 0) := (blk_cell BK118.out 2).trans rfl; have hfz16_0 := blk_frozen BK118.out 0; have hfz16_1 := blk_frozen BK118.out 1; have hfz16_2 := blk_frozen BK118.out 2; obtain ⟨Ao17, co17, eo17⟩ := Kd.R_slice HO113.out; subst eo17; obtain ⟨Ao18, co18, eo18⟩ := Kd.R_slice HO116.out; subst eo18; have hcz19_0 : w14.cell? ⟨gb109, 0, none⟩ = some (.int .i64 a4_0) := (blk_cell BK109.out 0).trans rfl; have hcz19_1 : w14.cell? ⟨gb109, 1, none⟩ = some (.slice A4_1 l4_1.length c4_1) := (blk_cell BK109.out 1).trans rfl; have hcz19_2 : w14.cell? ⟨gb109, 2, none⟩ = some (.slice A4_2 l4_2.length c4_2) := (blk_cell BK109.out 2).trans rfl; have hfz19_0 := blk_frozen BK109.out 0; have hfz19_1 := blk_frozen BK109.out 1; have hfz19_2 := blk_frozen BK109.out 2) | (go_at_call 34; (with_reducible refine (slices_Equal_int_int.calls k _ _ l4_1 _ _ t111 true _ ?side1 ?side2 ?side3 ?side4 A9.out).mono ?_); (case side1 => exact Kd.C_below HR4_1.out (zW HB)); (case side2 => exact HC4_1.out); (case side3 => refine (Kd.R_reads' (e := 3) (base := w.heap.size) (ok := fun k_ => some k_ ≠ (.slice Ao18 t114.length co18 : Value).ownBlock) (n := t111.length) (c := co17) ?_).2.2; exact (by (with_reducible repeat (first | apply Kd.R_alloc | apply Kd.R_drewN | apply Kd.R_drew)); exact (Kd.R_mono (Kd.R_far (p := ⟨gb118, 2, none⟩) (Kd.R_far (p := ⟨gb118, 1, none⟩) (Kd.R_far (p := ⟨gb118, 0, none⟩) (Kd.R_types HO113.out BK118.out (by decide)) (fun _ hk => hk.2) (.int .i64 t110)) (fun _ hk => hk.2) (.slice Ao17 t111.length co17)) (fun _ hk => hk.2) (.slice Ao18 t114.length co18)) (fun _ h_ => h_.1)))); (case side4 => exact (Kd.R_reads' HO113.out).2.1); rintro e w' ⟨rfl, ⟨nd, rfl⟩⟩) | (go_at_call 34; (with_reducible refine (slices_Equal_int_int.calls k _ _ l4_2 _ _ t114 t120 _ ?side1 ?side2 ?side3 ?side4 A11.out).mono ?_); (case side1 => exact Kd.C_below HR4_2.out (zW HB)); (case side2 => exact HC4_2.out); (case side3 => refine (Kd.R_reads' (e := 3) (base := w.heap.size) (ok := fun k_ => some k_ ≠ (.slice Ao17 t111.length co17 : Value).ownBlock) (n := t114.length) (c := co18) ?_).2.2; exact (by (with_reducible repeat (first | apply Kd.R_alloc | apply Kd.R_drewN | apply Kd.R_drew)); exact (Kd.R_mono (Kd.R_far (p := ⟨gb118, 2, none⟩) (Kd.R_far (p := ⟨gb118, 1, none⟩) (Kd.R_far (p := ⟨gb118, 0, none⟩) (Kd.R_types HO116.out BK118.out (by decide)) (fun _ hk => hk.2) (.int .i64 t110)) (fun _ hk => hk.2) (.slice Ao17 t111.length co17)) (fun _ hk => hk.2) (.slice Ao18 t114.length co18)) (fun _ h_ => h_.1)))); (case side4 => exact (Kd.R_reads' HO116.out).2.1); rintro e w' ⟨rfl, ⟨nd, rfl⟩⟩))
 go_ret
 exact ⟨zq6, zq16⟩
def dialtoneref22_Ints.l0 : Nat → List Int → List Int → Int → Option (Bool)
 | 0, _, _, _ => none
 | k + 1, x0, x1, x5 => if x5 < (x0.length : Int) then (if 0 ≤ x5 then (if x5 < (x1.length : Int) then (if (rd x0 x5) = (rd x1 x5) then (dialtoneref22_Ints.l0 k x0 x1 (wrap64 (x5 + 1))) else (some false)) else (none)) else (none)) else (some true)
def dialtoneref22_Ints.f (k : Nat) (l0 : List Int) (l1 : List Int) : Option (Bool) := if (l0.length : Int) = (l1.length : Int) then (dialtoneref22_Ints.l0 k l0 l1 0) else (some false)
theorem dialtoneref22_Ints.mono_l : ∀ k, (∀ y0 y1 y2, LeO (dialtoneref22_Ints.l0 k y0 y1 y2) (dialtoneref22_Ints.l0 (k + 1) y0 y1 y2))
 | 0 => fun _ _ _ r h => by simp [dialtoneref22_Ints.l0] at h
 | k + 1 => by
  have ih0 := dialtoneref22_Ints.mono_l k
  ·intro y0 y1 y2
   unfold dialtoneref22_Ints.l0
   repeat' first
   | (with_reducible exact ih0 _ _ _)
   | (with_reducible exact LeO.refl _)
   | (with_reducible exact LeO.none _)
   | (with_reducible refine LeO.ite ?_ ?_)
   | (with_reducible refine LeO.bind ?_ (fun _ => ?_))
   | exact ih0 _ _ _
   | exact LeO.none _
   | refine LeO.ite ?_ ?_
   | refine LeO.bind ?_ (fun _ => ?_)
theorem dialtoneref22_Ints.mono : ∀ a0 a1 k, LeO (dialtoneref22_Ints.f k a0 a1) (dialtoneref22_Ints.f (k + 1) a0 a1) := by
 intro a0 a1 k
 have ih0 := dialtoneref22_Ints.mono_l k
 unfold dialtoneref22_Ints.f
 repeat' first
  | (with_reducible exact ih0 _ _ _)
  | (with_reducible exact LeO.refl _)
  | (with_reducible exact LeO.none _)
  | (with_reducible refine LeO.ite ?_ ?_)
  | (with_reducible refine LeO.bind ?_ (fun _ => ?_))
  | exact ih0 _ _ _
  | exact LeO.none _
  | refine LeO.ite ?_ ?_
  | refine LeO.bind ?_ (fun _ => ?_)
set_option maxHeartbeats 8000000 in
set_option maxRecDepth 100000 in
theorem dialtoneref22_Ints.calls (k : Nat) (A0 : Option Addr) (c0 : Nat) (l0 : List Int) (A1 : Option Addr) (c1 : Nat) (l1 : List Int) (r : Bool) (w : World) (hr0 : Kd.C (Kd.int .i64) w A0 l0.length l0) (hc0 : l0.length ≤ c0) (hr1 : Kd.C (Kd.int .i64) w A1 l1.length l1) (hc1 : l1.length ≤ c1) (h : dialtoneref22_Ints.f k l0 l1 = some r) :
 Calls Tryz.prog 16 #[.slice A0 l0.length c0, .slice A1 l1.length c1] w fun e w' => e = .returned (.bool r) ∧ Drawn0 w w' := by
 have HR0 := Aside0.mk hr0
 have HC0 := Aside0.mk hc0
 clear hr0 hc0
 have HR1 := Aside0.mk hr1
 have HC1 := Aside0.mk hc1
 clear hr1 hc1
 have H : (if (l0.length : Int) = (l1.length : Int) then (dialtoneref22_Ints.l0 k l0 l1 0) else (some false)) = some r := h
 clear h
 by_cases c3 : (l0.length : Int) = (l1.length : Int)
 rotate_left
 ·rw [if_neg c3] at H
  have c3b0 : ((l0.length : Int) == (l1.length : Int)) = false := beq_eq_false_iff_ne.mpr c3
  have c3b1 : ((l0.length : Int) != (l1.length : Int)) = true := bne_iff_ne.mpr c3
  have c3b2 : (l0.length == l1.length) = false := by first | simpa using c3 | (simp at c3 ⊢; omega)
  obtain rfl := Option.some.inj H
  go_enter Tryz.func16, Tryz.ntmps16
  go_wp2
  repeat (go_quiet (fail); try go_wp2)
  go_ret
  exact ⟨zq2, zq3⟩
 rw [if_pos c3] at H
 have c3b0 : ((l0.length : Int) == (l1.length : Int)) = true := beq_iff_eq.mpr c3
 have c3b1 : ((l0.length : Int) != (l1.length : Int)) = false := bne_eq_false_iff_eq.mpr c3
 have c3b2 : (l0.length == l1.length) = true := by first | simpa using c3 | (simp at c3 ⊢; omega)
 clear c3
 have H' := Aside0.mk H
 clear H
 go_enter Tryz.func16, Tryz.ntmps16
 go_wp2
 repeat (go_quiet (fail); try go_wp2)
 go_loopg [5] k (fun kq v5 w' => ∃ (x5_1 : Int), v5 = .int .i64 x5_1 ∧ Aside0 (dialtoneref22_Ints.l0 kq l0 l1 x5_1 = some r) ∧ Aside0 (kq ≤ k) ∧ Drawn0 w w')
 case atStart => exact ⟨(0), (zq2), H', ⟨Nat.le_refl _⟩, zq3⟩
 case round =>
  clear H'
  try clear c1
  try clear p2
  try clear c3
  try clear c3b0
  try clear c3b1
  try clear c3b2
  obtain ⟨x5_1, rfl, HA, HK1, ⟨m1, rfl⟩⟩ := hrel
  cases gk with
  | zero => exact absurd HA.out (by simp [dialtoneref22_Ints.l0])
  | succ k1 =>
   have H := HA.out
   clear HA
   simp only [dialtoneref22_Ints.l0] at H
   by_cases c4 : x5_1 < (l0.length : Int)
   rotate_left
   ·rw [if_neg c4] at H
    have c4b0 : decide (x5_1 < (l0.length : Int)) = false := decide_eq_false c4
    clear c4
    obtain rfl := Option.some.inj H
    go_wp2
    repeat (go_quiet (fail); try go_wp2)
    go_ret
    exact ⟨zq2, zq3⟩
   rw [if_pos c4] at H
   have c4b0 : decide (x5_1 < (l0.length : Int)) = true := decide_eq_true c4
   clear c4
   by_cases c5 : 0 ≤ x5_1
   rotate_left
   ·rw [if_neg c5] at H
    exact absurd H (by simp)
   rw [if_pos c5] at H
   have c5b0 : decide (0 ≤ x5_1) = true := decide_eq_true c5
   clear c5
   by_cases c6 : x5_1 < (l1.length : Int)
   rotate_left
   ·rw [if_neg c6] at H
    exact absurd H (by simp)
   rw [if_pos c6] at H
   have c6b0 : decide (x5_1 < (l1.length : Int)) = true := decide_eq_true c6
   clear c6
   by_cases c7 : (rd l0 x5_1) = (rd l1 x5_1)
   rotate_left
   ·rw [if_neg c7] at H
    have c7b0 : ((rd l0 x5_1) == (rd l1 x5_1)) = false := beq_eq_false_iff_ne.mpr c7
    have c7b1 : ((rd l0 x5_1) != (rd l1 x5_1)) = true := bne_iff_ne.mpr c7
    obtain rfl := Option.some.inj H
    have p121 : 0 ≤ (x5_1 : Int) := of_decide_eq_true (zq9)
    have q121 : x5_1 < (l0.length : Int) := of_decide_eq_true (zq9)
    obtain ⟨ad121, e121, hx121_0⟩ := Kd.at_int HR0.out x5_1 p121 q121
    cases e121
    replace p121 := eq_true p121
    replace q121 := eq_true q121
    have p122 : 0 ≤ (x5_1 : Int) := of_decide_eq_true (zq9)
    have q122 : x5_1 < (l1.length : Int) := of_decide_eq_true (zq9)
    obtain ⟨ad122, e122, hx122_0⟩ := Kd.at_int HR1.out x5_1 p122 q122
    cases e122
    replace p122 := eq_true p122
    replace q122 := eq_true q122
    go_wp2
    repeat (go_quiet (fail); try go_wp2)
    go_ret
    exact ⟨zq2, zq3⟩
   rw [if_pos c7] at H
   have c7b0 : ((rd l0 x5_1) == (rd l1 x5_1)) = true := beq_iff_eq.mpr c7
   have c7b1 : ((rd l0 x5_1) != (rd l1 x5_1)) = false := bne_eq_false_iff_eq.mpr c7
   clear c7
   have H' := Aside0.mk H
   clear H
   have p121 : 0 ≤ (x5_1 : Int) := of_decide_eq_true (zq9)
   have q121 : x5_1 < (l0.length : Int) := of_decide_eq_true (zq9)
   obtain ⟨ad121, e121, hx121_0⟩ := Kd.at_int HR0.out x5_1 p121 q121
   cases e121
   replace p121 := eq_true p121
   replace q121 := eq_true q121
   have p122 : 0 ≤ (x5_1 : Int) := of_decide_eq_true (zq9)
   have q122 : x5_1 < (l1.length : Int) := of_decide_eq_true (zq9)
   obtain ⟨ad122, e122, hx122_0⟩ := Kd.at_int HR1.out x5_1 p122 q122
   cases e122
   replace p122 := eq_true p122
   replace q122 := eq_true q122
   go_wp2
   repeat (go_quiet (fail); try go_wp2)
   go_roundg k1
   case measure => have := HK1.out; omega
   case rel => exact ⟨(wrap64 (x5_1 + 1)), (zq2), H', ⟨zq10⟩, zq3⟩
end Go.Proofs.YtkfejgdeknemaaaGreatDoor.Fw
end
section
namespace Go.Proofs.YtkfejgdeknemaaaGreatDoor.Fw
open Go.RowKit Go.Shelf Go.Proofs.YtkfejgdeknemaaaGreatDoorW.PrintWords Go.Proofs.YtkfejgdeknemaaaGreatDoorW.PrintLast Go.Proofs.YtkfejgdeknemaaaGreatDoorW.PrintMore
set_option linter.unusedVariables false
set_option linter.unusedSimpArgs false
def payS (p : List Int) : List Int := if p = [] then [] else (-1) :: p.dropLast
def forward_Payers.f (a0_0 : Int) (l0_1 l0_2 : List Int) : Option (List Int) := if l0_1.length < 1000000 then some (payS l0_1) else none
set_option maxHeartbeats 1000000 in
set_option maxRecDepth 100000 in
theorem forward_Payers.calls (a0_0 : Int) (A0_1 : Option Addr) (c0_1 : Nat) (l0_1 : List Int) (A0_2 : Option Addr) (c0_2 : Nat) (l0_2 : List Int) (r : List Int) (w : World) (hr0_1 : Kd.C (Kd.int .i64) w A0_1 l0_1.length l0_1) (hc0_1 : l0_1.length ≤ c0_1) (hr0_2 : Kd.C (Kd.int .i64) w A0_2 l0_2.length l0_2) (hc0_2 : l0_2.length ≤ c0_2) (h : forward_Payers.f a0_0 l0_1 l0_2 = some r) :
    Calls Tryz.prog 18 #[.agg #[.int .i64 a0_0, .slice A0_1 l0_1.length c0_1, .slice A0_2 l0_2.length c0_2]] w fun e w' => ∃ v0_ : Value, e = .returned (v0_) ∧ Kd.R (Kd.int .i64) 3 w' w.heap.size (fun _ => True) v0_ r ∧ Below w.heap.size w w' := by
  have HR := Aside0.mk hr0_1
  have HV := Aside0.mk (show l0_1.length < 1000000 ∧ r = payS l0_1 by
    unfold forward_Payers.f at h
    split at h
    · exact ⟨‹_›, (Option.some.inj h).symm⟩
    · cases h)
  clear hr0_1 hr0_2 hc0_2 h
  obtain ⟨n, hn⟩ : ∃ n, l0_1.length = n := ⟨_, rfl⟩
  have HN := Aside0.mk hn
  rw [hn] at hc0_1 ⊢
  cases n with
  | zero =>
    have HV2 := Aside0.mk (show r = [] by rw [HV.out.2]; unfold payS; rw [if_pos (by cases l0_1 with | nil => rfl | cons a b => simp at hn)])
    clear hn
    go_enter Tryz.func18, Tryz.ntmps18
    go_wp2
    go_ret
    exact ⟨_, rfl, by rw [HV2.out]; exact Kd.R_nil _ _ _ _ _, below_alloc (Below.refl _ _) _⟩
  | succ m =>
    obtain ⟨ad, hA, _⟩ := Kd.at_int HR.out (0 : Int) (by omega) (by omega)
    subst hA
    have HP := Aside0.mk (show r = [-1] ++ l0_1.take m by
      rw [HV.out.2]; unfold payS
      rw [if_neg (by intro e; rw [e] at hn; simp at hn), List.dropLast_eq_take, hn]; rfl)
    have hlt : m < 1000000 := by have := HV.out.1; omega
    have hmc : m ≤ c0_1 := by omega
    have hz : ((m : Int) + 1 == 0) = false := by simp; omega
    obtain ⟨wb, hwb⟩ : ∃ wb, wb = (w.alloc (.cells #[.int .i64 a0_0, .slice (some ad) (m + 1) c0_1, .slice A0_2 l0_2.length c0_2] 31)).alloc (.cells #[.int .i64 (-1)] 3) := ⟨_, rfl⟩
    have HB := Aside0.mk (show Below w.heap.size w wb by rw [hwb]; exact below_alloc (below_alloc (Below.refl _ _) _) _)
    have HO := Aside0.mk (show Kd.R (Kd.int .i64) 3 wb w.heap.size (fun _ => True) (.slice (some ⟨w.heap.size + 1, 0, none⟩) 1 1) [-1] by
      have h := own_lit_of (enc := Value.int .i64) (w.alloc (.cells #[.int .i64 a0_0, .slice (some ad) (m + 1) c0_1, .slice A0_2 l0_2.length c0_2] 31)) w.heap.size 3 [-1] (by simp) (by simp)
      rw [World.size_alloc] at h
      rw [hwb]
      exact Kd.R_of_own h (fun _ _ => trivial))
    have HT := Aside0.mk (Kd.C_take (m := m) (Kd.C_below HR.out HB.out) (by omega))
    have hql : (l0_1.take m).length = m := by rw [List.length_take]; omega
    clear hn
    generalize l0_1.take m = q at *
    subst hql
    have HWB := Aside0.mk hwb
    clear hwb
    go_enter Tryz.func18, Tryz.ntmps18
    go_wp2_with (first | ((with_reducible refine gate_builtin (b := .append) (xs := #[.tmp 7, .tmp 14]) rfl ?_); at_builtin; rw [← HWB.out]; refine Kd.R_append_rows (Kd.int .i64) (w0 := w) w.heap.size rfl (.tmp 7) (.tmp 14) 29 3 (.int .i64 0) 8 rfl Tryz.underlying29 info3 rfl (by decide) (by omega) (.slice (some ⟨w.heap.size + 1, 0, none⟩) 1 1) [-1] q _ _ _ (fun _ => True) (fun _ => False) rfl rfl HO.out (HT.out) (fun _ _ h => h) (fun _ h => h.elim) (fun _ _ => trivial) HB.out (below_size HB.out) (by simp; omega) ?_; intro v1 w1 ho hb hg hat; have HO1 := Aside0.mk ho; have HB1 := Aside0.mk hb; clear ho hb hg hat))
    go_ret
    exact ⟨_, rfl, by rw [HP.out]; exact HO1.out, HB1.out⟩
end Go.Proofs.YtkfejgdeknemaaaGreatDoor.Fw
end
section
namespace Go.Proofs.YtkfejgdeknemaaaGreatDoor.Fw
open Go.RowKit Go.Shelf Go.Proofs.YtkfejgdeknemaaaGreatDoorW.PrintWords Go.Proofs.YtkfejgdeknemaaaGreatDoorW.PrintLast Go.Proofs.YtkfejgdeknemaaaGreatDoorW.PrintMore Go.Proofs.GRange
attribute [local go_sem] Oper.semAt_some
set_option linter.unusedVariables false
set_option linter.unusedSimpArgs false
def turnS (x : List Int) : List Int := x.drop (Lib.idxOf x (Lib.minOf x)).toNat ++ x.take (Lib.idxOf x (Lib.minOf x)).toNat
def loopGo (cn : Int → Option Int) (l : List S41) (n : Int) : Nat → List Int → Int → Option (List Int)
  | 0, _, _ => none
  | f + 1, out, x => match cn x with
    | none => none
    | some i => if toOf l i = n then some (turnS out) else if out.contains (toOf l i) = true then none else loopGo cn l n f (out ++ [toOf l i]) (toOf l i)
def loopS (cn : Int → Option Int) (l : List S41) (n : Int) : Option (List Int) := loopGo cn l n (l.length + 1) [n] n
theorem pigeon : ∀ (n : Nat) (xs : List Int), xs.Nodup → (∀ x ∈ xs, 0 ≤ x ∧ x < n) → xs.length ≤ n
  | 0, xs, _, h => by
    cases xs with
    | nil => simp
    | cons a b => have := h a List.mem_cons_self; omega
  | n + 1, xs, hn, h => by
    have h1 : (xs.erase (n : Int)).length ≤ n := pigeon n _ (hn.erase _) (fun x hx => by
      have h2 := (hn.mem_erase_iff.1 hx)
      have := h x h2.2
      omega)
    have h2 : xs.length ≤ (xs.erase (n : Int)).length + 1 := by
      rw [List.length_erase]
      split <;> omega
    omega
section
variable (w : World) (A0 : Option Addr) (c0 : Nat) (l : List S41) (b1 b2 bM bN bR bO bn : Nat) (n : Int)
structure Lc (out : List Int) (sp vp : Value) (W : World) : Prop where
  m : W.heap[bM]? = some (.cells #[.slice A0 l.length c0, .map (some b1), .map (some b2)] 73 (0, 0))
  nb : W.heap[bN]? = some (.cells #[.int .i64 n] 3 (0, 0))
  r : W.heap[bR]? = some (.cells #[.slice none 0 0] 29 (0, 0))
  o : W.heap[bO]? = some (.cells #[sp] 29 (0, 0))
  p : Kd.R (Kd.int .i64) 3 W w.heap.size (fun k => k ≠ bn ∧ k ≠ bN ∧ k ≠ b1 ∧ k ≠ b2) vp out
  bel : Below w.heap.size w W
def LcE (out : List Int) (W : World) : Prop := ∃ vp, Lc w A0 c0 l b1 b2 bM bN bR bO bn n out vp vp W
def LGo (cn : Int → Option Int) (res : Option (List Int)) (s : St) (W : World) : Prop :=
  ∃ out, out.length = s.1 + 1 ∧ out.getLast? = some s.2.1 ∧ out.Nodup ∧ (∀ y ∈ out, y ≠ s.2.1 → (cn y).isSome = true) ∧ loopGo cn l n (l.length + 1 - s.1) out s.2.1 = res ∧ s.1 ≤ l.length ∧ LcE w A0 c0 l b1 b2 bM bN bR bO bn n out W
def LGo' (cn : Int → Option Int) (res : Option (List Int)) (s : St) (W : World) : Prop := LGo w A0 c0 l b1 b2 bM bN bR bO bn n cn res (s.1 + 1, toOf l s.2.2, 0) W
def LIn (cn : Int → Option Int) (res : Option (List Int)) (s : St) (W : World) : Prop := cn s.2.1 = some s.2.2 ∧ LGo w A0 c0 l b1 b2 bM bN bR bO bn n cn res s W
def LFin (res : Option (List Int)) (W : World) : Prop := res = none ∧ W.heap[bR]? = some (.cells #[.slice none 0 0] 29 (0, 0)) ∧ Below w.heap.size w W
def LDone (res : Option (List Int)) (W : World) : Prop :=
  ∃ out v, (res = some out ∧ out ≠ []) ∧ W.heap[bR]? = some (.cells #[v] 29 (0, 0)) ∧ Kd.R (Kd.int .i64) 3 W w.heap.size (fun _ => True) v out ∧ Below w.heap.size w W
def LIx (res : Option (List Int)) : Code → World → Prop
  | .ret, W => LDone w bR res W
  | .exit 0, W => LFin w bR res W
  | _, _ => False
end
section
variable {w : World} {A0 : Option Addr} {c0 : Nat} {l : List S41} {b1 b2 bM bN bR bO bn : Nat} {n : Int} {out : List Int} {sp vp : Value} {W W' : World}
theorem Lc.kept (h : Lc w A0 c0 l b1 b2 bM bN bR bO bn n out sp vp W) {k : Nat} (hg : W.grownBy W' (some k)) (hk : w.heap.size ≤ k) (hne : bM ≠ k ∧ bN ≠ k ∧ bR ≠ k ∧ bO ≠ k)
    (hp : some k ≠ vp.ownBlock) : Lc w A0 c0 l b1 b2 bM bN bR bO bn n out sp vp W' := by
  obtain ⟨h1, h2, h3, h4⟩ := hne
  have bk : ∀ {g : Nat} {o : Obj}, g ≠ k → W.heap[g]? = some o → W'.heap[g]? = some o := fun hn hh => (hg.block _ (blk_lt hh) (by simpa using hn)).trans hh
  exact ⟨bk h1 h.m, bk h2 h.nb, bk h3 h.r, bk h4 h.o, Kd.R_grown1 h.p rfl hg hp, h.bel.grown hg h.bel.size (fun j e => by cases e; exact hk)⟩
theorem Lc.below (h : Lc w A0 c0 l b1 b2 bM bN bR bO bn n out sp vp W) (hb : Below W.heap.size W W') : Lc w A0 c0 l b1 b2 bM bN bR bO bn n out sp vp W' :=
  ⟨blk_below h.m hb, blk_below h.nb hb, blk_below h.r hb, blk_below h.o hb, Kd.R_below h.p hb, below_step h.bel hb⟩
theorem LcE.byN (h : LcE w A0 c0 l b1 b2 bM bN bR bO bn n out W) (hg : W.grownBy W' (some bn)) (hk : w.heap.size ≤ bn) (hne : bM ≠ bn ∧ bN ≠ bn ∧ bR ≠ bn ∧ bO ≠ bn) : LcE w A0 c0 l b1 b2 bM bN bR bO bn n out W' := by
  obtain ⟨vp, h⟩ := h
  exact ⟨vp, h.kept hg hk hne (fun e => (h.p.1 bn e.symm).1 rfl)⟩
theorem LcE.rec {B : Nat} (hB : w.heap.size ≤ B) (h1 : bM < B) (h2 : bN < B) (h3 : bR < B) (h4 : bO < B) : Rec B (LcE w A0 c0 l b1 b2 bM bN bR bO bn n out) := by
  intro W k r r' hk ⟨vp, h⟩ hl
  exact ⟨vp, h.kept (grownBy_putObj' W k (.loop r')) (by omega) ⟨by omega, by omega, by omega, by omega⟩ (own_loop h.p hl)⟩
theorem LGo.rec {cn : Int → Option Int} {res : Option (List Int)} {s : St} {B : Nat} (hB : w.heap.size ≤ B) (h1 : bM < B) (h2 : bN < B) (h3 : bR < B) (h4 : bO < B) : Rec B (LGo w A0 c0 l b1 b2 bM bN bR bO bn n cn res s) := by
  intro W k r r' hk ⟨o, g1, g2, g3, g4, g5, g6, hE⟩ hl
  exact ⟨o, g1, g2, g3, g4, g5, g6, LcE.rec hB h1 h2 h3 h4 W k r r' hk hE hl⟩
theorem LFin.keep {res : Option (List Int)} (h : LFin w bR res W) {k : Nat} (hg : W.grownBy W' (some k)) (hk : w.heap.size ≤ k) (hne : bR ≠ k) : LFin w bR res W' :=
  ⟨h.1, (hg.block _ (blk_lt h.2.1) (by simpa using hne)).trans h.2.1, h.2.2.grown hg h.2.2.size (fun j e => by cases e; exact hk)⟩
theorem LFin.rec {res : Option (List Int)} {B : Nat} (hB : w.heap.size ≤ B) (h3 : bR < B) : Rec B (LFin w bR res) :=
  fun W k r r' hk h hl => h.keep (grownBy_putObj' W k (.loop r')) (by omega) (by omega)
theorem LFin.below {res : Option (List Int)} (h : LFin w bR res W) (hb : Below W.heap.size W W') : LFin w bR res W' := ⟨h.1, blk_below h.2.1 hb, below_step h.2.2 hb⟩
theorem LDone.rec {res : Option (List Int)} {B : Nat} (hB : w.heap.size ≤ B) (h3 : bR < B) : Rec B (LDone w bR res) := by
  intro W k r r' hk ⟨o, v, e, h1, h2, h4⟩ hl
  have hg := grownBy_putObj' W k (.loop r')
  exact ⟨o, v, e, (hg.block _ (blk_lt h1) (by simp; omega)).trans h1, Kd.R_grown1 h2 rfl hg (own_loop h2 hl), h4.grown hg h4.size (fun j e => by cases e; omega)⟩
theorem LDone.shut {res : Option (List Int)} {D : Nat} (h : LDone w bR res W) (hk : W.heap[D]? = some (.deferred (some []))) (hD : w.heap.size ≤ D) : LDone w bR res (W.putObj D (.deferred none)) := by
  obtain ⟨o, v, e, h1, h2, h4⟩ := h
  have hg := grownBy_putObj' W D (.deferred none)
  have ne : bR ≠ D := fun e => by rw [e, hk] at h1; cases h1
  have ow : some D ≠ v.ownBlock := fun e => by
    obtain ⟨cells, hc⟩ := Kd.R_typed h2 D e.symm
    rw [hk] at hc; cases hc
  exact ⟨o, v, e, (hg.block _ (blk_lt h1) (by simpa using ne)).trans h1, Kd.R_grown1 h2 rfl hg ow, h4.grown hg h4.size (fun j e => by cases e; exact hD)⟩
theorem LFin.shut {res : Option (List Int)} {D : Nat} (h : LFin w bR res W) (hk : W.heap[D]? = some (.deferred (some []))) (hD : w.heap.size ≤ D) : LFin w bR res (W.putObj D (.deferred none)) :=
  h.keep (grownBy_putObj' W D (.deferred none)) hD (fun e => by have h1 := h.2.1; rw [e, hk] at h1; cases h1)
theorem LIx.rec {res : Option (List Int)} {B : Nat} (hB : w.heap.size ≤ B) (h3 : bR < B) (c : Code) : Rec B (LIx w bR res c) := by
  intro W k r r' hk h hl
  cases c with
  | ret => exact LDone.rec hB h3 W k r r' hk h hl
  | exit id =>
    cases id with
    | zero => exact LFin.rec hB h3 W k r r' hk h hl
    | succ m => exact h.elim
  | _ => exact h.elim
theorem LGo.next {cn : Int → Option Int} {res : Option (List Int)} {k : Nat} {x i : Int} (h : LGo w A0 c0 l b1 b2 bM bN bR bO bn n cn res (k, x, i) W) (hg : W.grownBy W' (some bn)) (hk : w.heap.size ≤ bn) (hne : bM ≠ bn ∧ bN ≠ bn ∧ bR ≠ bn ∧ bO ≠ bn) :
    match cn x with | some j => LIn w A0 c0 l b1 b2 bM bN bR bO bn n cn res (k, x, j) W' | none => LFin w bR res W' := by
  obtain ⟨o, g1, g2, g3, g4, g5, g6, hE⟩ := h
  dsimp only at g1 g2 g3 g4 g5 g6
  have hE' := hE.byN hg hk hne
  cases hc : cn x with
  | some j => exact ⟨hc, o, g1, g2, g3, g4, g5, g6, hE'⟩
  | none =>
    obtain ⟨m, hm⟩ : ∃ m, l.length + 1 - k = m + 1 := ⟨l.length - k, by omega⟩
    rw [hm] at g5
    simp only [loopGo, hc] at g5
    obtain ⟨vp, hL⟩ := hE'
    exact ⟨g5.symm, hL.r, hL.bel⟩
theorem room {cn : Int → Option Int} (hG : ∀ x i, cn x = some i → 0 ≤ i ∧ i < l.length) (hinj : ∀ x y i, cn x = some i → cn y = some i → x = y) {o : List Int} (hn : o.Nodup) (h : ∀ y ∈ o, (cn y).isSome = true) : o.length ≤ l.length := by
  have h1 : (o.map fun y => (cn y).getD 0).Nodup := by
    refine List.pairwise_map.2 (List.Pairwise.imp_of_mem ?_ hn)
    intro a b ha hb hab e
    obtain ⟨i, hi⟩ := Option.isSome_iff_exists.1 (h a ha)
    obtain ⟨j, hj⟩ := Option.isSome_iff_exists.1 (h b hb)
    rw [hi, hj] at e
    simp only [Option.getD_some] at e
    subst e
    exact hab (hinj a b i hi hj)
  have h2 := pigeon l.length _ h1 (fun x hx => by
    obtain ⟨y, hy, rfl⟩ := List.mem_map.1 hx
    obtain ⟨i, hi⟩ := Option.isSome_iff_exists.1 (h y hy)
    rw [hi]
    exact hG y i hi)
  simpa using h2
end
theorem idxFrom_bd (x : Int) : ∀ (zs : List Int) (k : Nat), zs.contains x = true → ∃ j : Nat, Lib.idxFrom zs x k = ((k + j : Nat) : Int) ∧ j < zs.length
  | [], _, h => by simp at h
  | z :: zs, k, h => by
    unfold Lib.idxFrom
    by_cases e : z = x
    · rw [if_pos e]; exact ⟨0, by simp, by simp⟩
    · rw [if_neg e]
      obtain ⟨j, h1, h2⟩ := idxFrom_bd x zs (k + 1) (by simpa [Ne.symm e, e] using h)
      exact ⟨j + 1, by rw [h1]; congr 1; omega, by simp; omega⟩
theorem foldl_min_mem : ∀ (l : List Int) (a : Int), l.foldl min a = a ∨ l.foldl min a ∈ l
  | [], _ => .inl rfl
  | z :: zs, a => by
    rw [List.foldl_cons]
    rcases foldl_min_mem zs (min a z) with h | h
    · rw [h]
      by_cases e : a ≤ z
      · rw [Int.min_eq_left e]; exact .inl rfl
      · rw [Int.min_eq_right (by omega)]; exact .inr List.mem_cons_self
    · exact .inr (List.mem_cons_of_mem _ h)
theorem minOf_mem {zs : List Int} (h : zs ≠ []) : Lib.minOf zs ∈ zs := by
  cases zs with
  | nil => exact absurd rfl h
  | cons z zs =>
    unfold Lib.minOf
    rw [List.headD_cons]
    rcases foldl_min_mem (z :: zs) z with e | e
    · rw [e]; exact List.mem_cons_self
    · exact e
theorem least_at {zs : List Int} (h : zs ≠ []) : ∃ j : Nat, Lib.idxOf zs (Lib.minOf zs) = (j : Int) ∧ j < zs.length := by
  obtain ⟨j, h1, h2⟩ := idxFrom_bd (Lib.minOf zs) zs 0 (by simpa using minOf_mem h)
  exact ⟨j, by unfold Lib.idxOf; rw [h1]; simp, h2⟩
theorem own_form {w : World} {e base : Nat} {ok : Nat → Prop} {v : Value} {xs : List Int} (h : Kd.R (Kd.int .i64) e w base ok v xs) (hn : 0 < xs.length) : ∃ g c, v = .slice (some ⟨g, 0, none⟩) xs.length c ∧ xs.length ≤ c := by
  obtain ⟨inner, ho⟩ := Kd.R_own h
  rcases ho.2 with ⟨h1, h2⟩ | ⟨g, cap, cur, h1, _⟩
  · obtain ⟨A, c, h3⟩ := Kd.R_slice h
    rw [h3] at h1
    injection h1 with _ h4
    omega
  · subst h1
    exact ⟨g, cap, rfl, own_cap ho⟩
theorem cells_int {w : World} {g : Nat} {xs : List Int} (h : Kd.C (Kd.int .i64) w (some ⟨g, 0, none⟩) xs.length xs) (j : Nat) (hj : j < xs.length) : w.cell? ⟨g, 0 + j, none⟩ = some (.int .i64 (xs.getD j 0)) := by
  obtain ⟨ad, e, h1⟩ := Kd.at_int h (j : Int) (by omega) (by omega)
  obtain rfl := Option.some.inj e
  rw [Int.toNat_natCast] at h1
  have h2 : (⟨g, 0, none⟩ : Addr).add j = ⟨g, 0 + j, none⟩ := by simp [Addr.add]; exact fun h => h.symm
  rw [h2] at h1
  rw [h1]; simp [rd]
section
variable {w : World} {A0 : Option Addr} {c0 : Nat} {l : List S41} {b1 b2 n1 n2 bM bN bR bO bm bn : Nat} {n x : Int} {G : Int → Int → Option Int} {C : Int → Option Int} {out : List Int} {sp vp : Value} {W W' : World}
theorem Lc.app (h : Lc w A0 c0 l b1 b2 bM bN bR bO bn n out sp vp W) (hB : Base w A0 c0 l b1 b2 n1 n2 bm bn G C x W) {out' : List Int} {v1 : Value} (ho : Kd.R (Kd.int .i64) 3 W' w.heap.size (fun k => k ≠ bn ∧ k ≠ bN ∧ k ≠ b1 ∧ k ≠ b2) v1 out') (hb : Below w.heap.size w W')
    (hg : W.grownBy W' vp.ownBlock) : Lc w A0 c0 l b1 b2 bM bN bR bO bn n out' sp v1 W' ∧ Base w A0 c0 l b1 b2 n1 n2 bm bn G C x W' ∧ Sees W W' := by
  obtain ⟨hB', hc, hS', bk⟩ := rest_row h.p (fun k hk => ⟨hk.1, hk.2.2⟩) hg hB hb
  exact ⟨⟨bk (by decide) h.m, (hg.block _ (blk_lt h.nb) (fun e => (h.p.1 bN e.symm).2.1 rfl)).trans h.nb, bk (by decide) h.r, bk (by decide) h.o, ho, hb⟩, hB', hS'⟩
theorem Lc.put (h : Lc w A0 c0 l b1 b2 bM bN bR bO bn n out sp vp W) (hB : Base w A0 c0 l b1 b2 n1 n2 bm bn G C x W) (hne : bM ≠ bO ∧ bN ≠ bO ∧ bR ≠ bO ∧ b1 ≠ bO ∧ b2 ≠ bO ∧ bm ≠ bO ∧ bn ≠ bO) (hge : w.heap.size ≤ bO) (v : Value) :
    Lc w A0 c0 l b1 b2 bM bN bR bO bn n out v vp (W.setCell ⟨bO, 0, none⟩ v) ∧ Base w A0 c0 l b1 b2 n1 n2 bm bn G C x (W.setCell ⟨bO, 0, none⟩ v) ∧ Sees W (W.setCell ⟨bO, 0, none⟩ v) := by
  obtain ⟨h1, h2, h3, h4, h5, h6, h7⟩ := hne
  have hb := below_set (j := 0) (v := v) h.bel hge
  exact ⟨⟨blk_far h.m h1 _, blk_far h.nb h2 _, blk_far h.r h3 _, blk_put h.o 0 v rfl, Kd.R_mono (Kd.R_far (p := ⟨bO, 0, none⟩) (Kd.R_types h.p h.o (by decide)) (fun _ hk => hk.2) v) (fun _ hk => hk.1), hb⟩,
    ⟨blk_far hB.bm h6 _, blk_far hB.bn h7 _, hB.set.setCell (a := ⟨bO, 0, none⟩) h4 v, hB.con.setCell (a := ⟨bO, 0, none⟩) h5 v, hb⟩, Sees.setCell _ _ _⟩
end
end Go.Proofs.YtkfejgdeknemaaaGreatDoor.Fw
end
section
open Go.Proofs.YtkfejgdeknemaaaGreatDoor.Z
namespace Go.Proofs.YtkfejgdeknemaaaGreatDoor.Fw
open Go.RowKit Go.Proofs.YtkfejgdeknemaaaGreatDoorW.PrintWords Go.Proofs.YtkfejgdeknemaaaGreatDoorW.PrintLast Go.Proofs.YtkfejgdeknemaaaGreatDoorW.PrintMore
attribute [local go_sem] max2_int min2_int max_two min_two max_three min_three max_four min_four
set_option linter.unusedVariables false
set_option linter.unusedSimpArgs false
attribute [local go_sem high] eqA86
def forward_Dial.f (k : Nat) (l0 : List (S58)) (a1 : Int) (a2 : Int) (a3 : Int) (a4 : ByteArray) (a5_0 : Int) (a5_1 : Int) : Option (Int × Int × Int × Int × Int × Int) := (plan_Read.f k l0 a4 a1).bind fun bt159 => (if bt159.2.2.2.2 = 0 then (if (!(bt159.1 == 2) || (!(bt159.2.2.2.1 == (a4.size : Int)))) = true then (some (0, 0, 0, 0, 0, 220)) else ((forward_isFormed.f a2 a3 bt159.2.1 a5_0 a5_1).bind fun t166 => (if t166 = true then (some (a2, a3, bt159.2.1, a5_0, a5_1, 0)) else (some (0, 0, 0, 0, 0, 220))))) else (some (0, 0, 0, 0, 0, 220)))
theorem forward_Dial.mono : ∀ a0 a1 a2 a3 a4 a5 a6 k, LeO (forward_Dial.f k a0 a1 a2 a3 a4 a5 a6) (forward_Dial.f (k + 1) a0 a1 a2 a3 a4 a5 a6) := by
 intro a0 a1 a2 a3 a4 a5 a6 k
 unfold forward_Dial.f
 repeat' first
  | (with_reducible exact plan_Read.mono _ _ _ _)
  | (with_reducible exact LeO.refl _)
  | (with_reducible exact LeO.none _)
  | (with_reducible refine LeO.ite ?_ ?_)
  | (with_reducible refine LeO.bind ?_ (fun _ => ?_))
  | exact plan_Read.mono _ _ _ _
  | exact LeO.none _
  | refine LeO.ite ?_ ?_
  | refine LeO.bind ?_ (fun _ => ?_)
set_option maxHeartbeats 8000000 in
set_option maxRecDepth 100000 in
theorem forward_Dial.calls (k : Nat) (A0 : Option Addr) (c0 : Nat) (l0 : List (S58)) (a1 : Int) (a2 : Int) (a3 : Int) (a4 : ByteArray) (a5_0 : Int) (a5_1 : Int) (r1 : Int) (r2 : Int) (r3 : Int) (r4 : Int) (r5 : Int) (r6 : Int) (w : World) (hr0 : Kd.C k58 w A0 l0.length l0) (hc0 : l0.length ≤ c0) (h : forward_Dial.f k l0 a1 a2 a3 a4 a5_0 a5_1 = some (r1, r2, r3, r4, r5, r6)) :
 Calls Tryz.prog 22 #[.slice A0 l0.length c0, .int .i64 a1, .int .i64 a2, .int .i64 a3, .string a4, .agg #[.int .i64 a5_0, .int .i64 a5_1]] w fun e w' => e = .returned (.tuple #[.agg #[.int .i64 r1, .int .i64 r2, .int .i64 r3, .int .i64 r4, .int .i64 r5], .int .i64 r6]) ∧ Below w.heap.size w w' := by
 have hu39 := Tryz.underlying39
 have hu41 := Tryz.underlying41
 have hu86 := Tryz.underlying86
 have HR0 := Aside0.mk hr0
 have HC0 := Aside0.mk hc0
 clear hr0 hc0
 have HB := Aside0.mk (Below.refl w.heap.size w)
 have H : ((plan_Read.f k l0 a4 a1).bind fun bt159 => (if bt159.2.2.2.2 = 0 then (if (!(bt159.1 == 2) || (!(bt159.2.2.2.1 == (a4.size : Int)))) = true then (some (0, 0, 0, 0, 0, 220)) else ((forward_isFormed.f a2 a3 bt159.2.1 a5_0 a5_1).bind fun t166 => (if t166 = true then (some (a2, a3, bt159.2.1, a5_0, a5_1, 0)) else (some (0, 0, 0, 0, 0, 220))))) else (some (0, 0, 0, 0, 0, 220)))) = some (r1, r2, r3, r4, r5, r6) := h
 clear h
 replace H := Option.bind_eq_some_iff.mp H
 obtain ⟨⟨t159, t160, t161, t162, t163⟩, A70, H⟩ := H
 replace H : (if t163 = 0 then (if (!(t159 == 2) || (!(t162 == (a4.size : Int)))) = true then (some (0, 0, 0, 0, 0, 220)) else ((forward_isFormed.f a2 a3 t160 a5_0 a5_1).bind fun t166 => (if t166 = true then (some (a2, a3, t160, a5_0, a5_1, 0)) else (some (0, 0, 0, 0, 0, 220))))) else (some (0, 0, 0, 0, 0, 220))) = some (r1, r2, r3, r4, r5, r6) := H
 have A7 := Aside0.mk A70
 clear A70
 by_cases c8 : t163 = 0
 rotate_left
 ·rw [if_neg c8] at H
  have c8b0 : (t163 == 0) = false := beq_eq_false_iff_ne.mpr c8
  have c8b1 : (t163 != 0) = true := bne_iff_ne.mpr c8
  simp only [Option.some.injEq, Prod.mk.injEq] at H
  obtain ⟨rfl, rfl, rfl, rfl, rfl, rfl⟩ := H
  go_enter Tryz.func22, Tryz.ntmps22
  go_wp2_with (first | ((with_reducible refine gate_dst (N := 11) rfl ?_); (try (refine gate_guard (by rfl) ?_; dsimp only)); refine box_event ?hg (N := 11) ?hd (cs := #[.int .i64 a5_0, .int .i64 a5_1]) (t := 39) ?hr ?_; (case hd => rfl); (case hg => rfl); (case hr => exact zq4); intro gb157 hg w63 hbox hb; have BK157 := Aside0.mk (hbox); have GW157 := Aside0.mk ((zq5 : w.heap.size ≤ gb157)); have GE157 := Aside0.mk ((zq5 : w.heap.size ≤ gb157)); replace HB := Aside0.mk (below_step (zW HB) hb); clear hb hbox hg) | ((with_reducible refine gate_dst (N := 12) rfl ?_); (try (refine gate_guard (by rfl) ?_; dsimp only)); refine box_event ?hg (N := 12) ?hd (cs := #[.int .i64 0, .int .i64 0, .int .i64 0, .int .i64 0, .int .i64 0]) (t := 41) ?hr ?_; (case hd => rfl); (case hg => rfl); (case hr => exact zq4); intro gb158 hg w64 hbox hb; have BK158 := Aside0.mk (hbox); have GW158 := Aside0.mk ((zq5 : w.heap.size ≤ gb158)); have GE158 := Aside0.mk ((zq5 : w.heap.size ≤ gb158)); replace HB := Aside0.mk (below_step (zW HB) hb); have NB157_158 := Aside0.mk ((zq34 : gb157 ≠ gb158)); have NB158_157 := Aside0.mk ((zq35 : gb158 ≠ gb157)); replace BK157 := Aside0.mk (blk_below (zB BK157) hb); clear hb hbox hg) | ((with_reducible refine gate_callee (f := 43) rfl ?_); refine goesL_ (some 21) rfl rfl Tryz.func43 (by kernel_rfl) rfl #[.slice A0 l0.length c0, .string a4, .int .i64 a1] rfl zG ?_; (with_reducible refine (plan_Read.calls k _ _ l0 a4 a1 t159 t160 t161 t162 t163 _ ?side1 ?side2 A7.out).mono ?_); (case side1 => exact zq11); (case side2 => exact zq12); rintro e w65 ⟨rfl, hb⟩; refine ⟨_, rfl, ?_⟩; replace BK157 := Aside0.mk (blk_below (zB BK157) hb); replace BK158 := Aside0.mk (blk_below (zB BK158) hb); replace HB := Aside0.mk (below_step (zW HB) hb); (try clear hb); (try clear hb2); (try clear hk); (try clear hi)) | ((with_reducible refine gate_dst (N := 14) rfl ?_); (try (refine gate_guard (by rfl) ?_; dsimp only)); refine box_event ?hg (N := 14) ?hd (cs := #[.int .i64 0, .int .i64 0, .int .i64 0, .int .i64 0]) (t := 86) ?hr ?_; (case hd => rfl); (case hg => rfl); (case hr => exact zq4); intro gb164 hg w66 hbox hb; have BK164 := Aside0.mk (hbox); have GW164 := Aside0.mk ((zq5 : w.heap.size ≤ gb164)); have GE164 := Aside0.mk ((zq5 : w.heap.size ≤ gb164)); replace HB := Aside0.mk (below_step (zW HB) hb); have NB157_164 := Aside0.mk ((zq34 : gb157 ≠ gb164)); have NB164_157 := Aside0.mk ((zq35 : gb164 ≠ gb157)); replace BK157 := Aside0.mk (blk_below (zB BK157) hb); have NB158_164 := Aside0.mk ((zq36 : gb158 ≠ gb164)); have NB164_158 := Aside0.mk ((zq37 : gb164 ≠ gb158)); replace BK158 := Aside0.mk (blk_below (zB BK158) hb); clear hb hbox hg; have hnb67 := NB164_157.out; have hnc67 := NB157_164.out; have hnb68 := NB164_158.out; have hnc68 := NB158_164.out; have hcz69_0 : w66.cell? ⟨gb164, 0, none⟩ = some (.int .i64 0) := (blk_cell BK164.out 0).trans rfl; have hcz69_1 : w66.cell? ⟨gb164, 1, none⟩ = some (.int .i64 0) := (blk_cell BK164.out 1).trans rfl; have hcz69_2 : w66.cell? ⟨gb164, 2, none⟩ = some (.int .i64 0) := (blk_cell BK164.out 2).trans rfl; have hcz69_3 : w66.cell? ⟨gb164, 3, none⟩ = some (.int .i64 0) := (blk_cell BK164.out 3).trans rfl; have hfz69_0 := blk_frozen BK164.out 0; have hfz69_1 := blk_frozen BK164.out 1; have hfz69_2 := blk_frozen BK164.out 2; have hfz69_3 := blk_frozen BK164.out 3; have hnb70 := NB157_158.out; have hnc70 := NB158_157.out; have hcz71_0 : w66.cell? ⟨gb157, 0, none⟩ = some (.int .i64 a5_0) := (blk_cell BK157.out 0).trans rfl; have hcz71_1 : w66.cell? ⟨gb157, 1, none⟩ = some (.int .i64 a5_1) := (blk_cell BK157.out 1).trans rfl; have hfz71_0 := blk_frozen BK157.out 0; have hfz71_1 := blk_frozen BK157.out 1) | ((with_reducible refine gate_dst (N := 16) rfl ?_); (try (refine gate_guard (by rfl) ?_; dsimp only)); refine box_event ?hg (N := 16) ?hd (cs := #[.int .i64 0, .int .i64 0, .int .i64 0, .int .i64 0, .int .i64 0]) (t := 41) ?hr ?_; (case hd => rfl); (case hg => rfl); (case hr => exact zq4); intro gb165 hg w72 hbox hb; have BK165 := Aside0.mk (hbox); have GW165 := Aside0.mk ((zq5 : w.heap.size ≤ gb165)); have GE165 := Aside0.mk ((zq5 : w.heap.size ≤ gb165)); replace HB := Aside0.mk (below_step (zW HB) hb); have NB157_165 := Aside0.mk ((zq38 : gb157 ≠ gb165)); have NB165_157 := Aside0.mk ((zq40 : gb165 ≠ gb157)); replace BK157 := Aside0.mk (blk_below (g := gb157) (o := .cells #[.int .i64 a5_0, .int .i64 a5_1] 39 (0, 0)) (zq39) hb); have NB158_165 := Aside0.mk ((zq41 : gb158 ≠ gb165)); have NB165_158 := Aside0.mk ((zq43 : gb165 ≠ gb158)); replace BK158 := Aside0.mk (blk_below (g := gb158) (o := .cells #[.int .i64 0, .int .i64 0, .int .i64 0, .int .i64 0, .int .i64 0] 41 (0, 0)) (zq42) hb); have NB164_165 := Aside0.mk ((zq44 : gb164 ≠ gb165)); have NB165_164 := Aside0.mk ((zq46 : gb165 ≠ gb164)); replace BK164 := Aside0.mk (blk_below (g := gb164) (o := .cells #[.int .i64 t159, .int .i64 t160, .int .i64 t161, .int .i64 t162] 86 (0, 0)) (zq45) hb); clear hb hbox hg; have hnb73 := NB165_157.out; have hnc73 := NB157_165.out; have hnb74 := NB165_158.out; have hnc74 := NB158_165.out; have hnb75 := NB165_164.out; have hnc75 := NB164_165.out; have hcz76_0 : w72.cell? ⟨gb165, 0, none⟩ = some (.int .i64 0) := (blk_cell BK165.out 0).trans rfl; have hcz76_1 : w72.cell? ⟨gb165, 1, none⟩ = some (.int .i64 0) := (blk_cell BK165.out 1).trans rfl; have hcz76_2 : w72.cell? ⟨gb165, 2, none⟩ = some (.int .i64 0) := (blk_cell BK165.out 2).trans rfl; have hcz76_3 : w72.cell? ⟨gb165, 3, none⟩ = some (.int .i64 0) := (blk_cell BK165.out 3).trans rfl; have hcz76_4 : w72.cell? ⟨gb165, 4, none⟩ = some (.int .i64 0) := (blk_cell BK165.out 4).trans rfl; have hfz76_0 := blk_frozen BK165.out 0; have hfz76_1 := blk_frozen BK165.out 1; have hfz76_2 := blk_frozen BK165.out 2; have hfz76_3 := blk_frozen BK165.out 3; have hfz76_4 := blk_frozen BK165.out 4; have hcz77_0 : w72.cell? ⟨gb158, 0, none⟩ = some (.int .i64 0) := (blk_cell BK158.out 0).trans rfl; have hcz77_1 : w72.cell? ⟨gb158, 1, none⟩ = some (.int .i64 0) := (blk_cell BK158.out 1).trans rfl; have hcz77_2 : w72.cell? ⟨gb158, 2, none⟩ = some (.int .i64 0) := (blk_cell BK158.out 2).trans rfl; have hcz77_3 : w72.cell? ⟨gb158, 3, none⟩ = some (.int .i64 0) := (blk_cell BK158.out 3).trans rfl; have hcz77_4 : w72.cell? ⟨gb158, 4, none⟩ = some (.int .i64 0) := (blk_cell BK158.out 4).trans rfl; have hfz77_0 := blk_frozen BK158.out 0; have hfz77_1 := blk_frozen BK158.out 1; have hfz77_2 := blk_frozen BK158.out 2; have hfz77_3 := blk_frozen BK158.out 3; have hfz77_4 := blk_frozen BK158.out 4))
  refine bodyPost_ret (results_ct rfl _ _ gb158 41 #[.int .i64 0, .int .i64 0, .int .i64 0, .int .i64 0, .int .i64 0] (0, 0) _ rfl (zq47) Tryz.underlying41 rfl (by kernel_rfl)) rfl ?_
  exact ⟨zq6, zq52⟩
 rw [if_pos c8] at H
 have c8b0 : (t163 == 0) = true := beq_iff_eq.mpr c8
 have c8b1 : (t163 != 0) = false := bne_eq_false_iff_eq.mpr c8
 clear c8
 by_cases c9 : (!(t159 == 2) || (!(t162 == (a4.size : Int)))) = true
 ·rw [if_pos c9] at H
  have c9b0 : (!(t159 == 2) || (!(t162 == (a4.size : Int)))) = true := c9
  clear c9
  simp only [Option.some.injEq, Prod.mk.injEq] at H
  obtain ⟨rfl, rfl, rfl, rfl, rfl, rfl⟩ := H
  go_enter Tryz.func22, Tryz.ntmps22
  go_wp2_with (first | ((with_reducible refine gate_dst (N := 11) rfl ?_); (try (refine gate_guard (by rfl) ?_; dsimp only)); refine box_event ?hg (N := 11) ?hd (cs := #[.int .i64 a5_0, .int .i64 a5_1]) (t := 39) ?hr ?_; (case hd => rfl); (case hg => rfl); (case hr => exact zq4); intro gb157 hg w10 hbox hb; have BK157 := Aside0.mk (hbox); have GW157 := Aside0.mk ((zq5 : w.heap.size ≤ gb157)); have GE157 := Aside0.mk ((zq5 : w.heap.size ≤ gb157)); replace HB := Aside0.mk (below_step (zW HB) hb); clear hb hbox hg) | ((with_reducible refine gate_dst (N := 12) rfl ?_); (try (refine gate_guard (by rfl) ?_; dsimp only)); refine box_event ?hg (N := 12) ?hd (cs := #[.int .i64 0, .int .i64 0, .int .i64 0, .int .i64 0, .int .i64 0]) (t := 41) ?hr ?_; (case hd => rfl); (case hg => rfl); (case hr => exact zq4); intro gb158 hg w11 hbox hb; have BK158 := Aside0.mk (hbox); have GW158 := Aside0.mk ((zq5 : w.heap.size ≤ gb158)); have GE158 := Aside0.mk ((zq5 : w.heap.size ≤ gb158)); replace HB := Aside0.mk (below_step (zW HB) hb); have NB157_158 := Aside0.mk ((zq34 : gb157 ≠ gb158)); have NB158_157 := Aside0.mk ((zq35 : gb158 ≠ gb157)); replace BK157 := Aside0.mk (blk_below (zB BK157) hb); clear hb hbox hg) | ((with_reducible refine gate_callee (f := 43) rfl ?_); refine goesL_ (some 21) rfl rfl Tryz.func43 (by kernel_rfl) rfl #[.slice A0 l0.length c0, .string a4, .int .i64 a1] rfl zG ?_; (with_reducible refine (plan_Read.calls k _ _ l0 a4 a1 t159 t160 t161 t162 t163 _ ?side1 ?side2 A7.out).mono ?_); (case side1 => exact zq11); (case side2 => exact zq12); rintro e w12 ⟨rfl, hb⟩; refine ⟨_, rfl, ?_⟩; replace BK157 := Aside0.mk (blk_below (zB BK157) hb); replace BK158 := Aside0.mk (blk_below (zB BK158) hb); replace HB := Aside0.mk (below_step (zW HB) hb); (try clear hb); (try clear hb2); (try clear hk); (try clear hi)) | ((with_reducible refine gate_dst (N := 14) rfl ?_); (try (refine gate_guard (by rfl) ?_; dsimp only)); refine box_event ?hg (N := 14) ?hd (cs := #[.int .i64 0, .int .i64 0, .int .i64 0, .int .i64 0]) (t := 86) ?hr ?_; (case hd => rfl); (case hg => rfl); (case hr => exact zq4); intro gb164 hg w13 hbox hb; have BK164 := Aside0.mk (hbox); have GW164 := Aside0.mk ((zq5 : w.heap.size ≤ gb164)); have GE164 := Aside0.mk ((zq5 : w.heap.size ≤ gb164)); replace HB := Aside0.mk (below_step (zW HB) hb); have NB157_164 := Aside0.mk ((zq34 : gb157 ≠ gb164)); have NB164_157 := Aside0.mk ((zq35 : gb164 ≠ gb157)); replace BK157 := Aside0.mk (blk_below (zB BK157) hb); have NB158_164 := Aside0.mk ((zq36 : gb158 ≠ gb164)); have NB164_158 := Aside0.mk ((zq37 : gb164 ≠ gb158)); replace BK158 := Aside0.mk (blk_below (zB BK158) hb); clear hb hbox hg; have hnb14 := NB164_157.out; have hnc14 := NB157_164.out; have hnb15 := NB164_158.out; have hnc15 := NB158_164.out; have hcz16_0 : w13.cell? ⟨gb164, 0, none⟩ = some (.int .i64 0) := (blk_cell BK164.out 0).trans rfl; have hcz16_1 : w13.cell? ⟨gb164, 1, none⟩ = some (.int .i64 0) := (blk_cell BK164.out 1).trans rfl; have hcz16_2 : w13.cell? ⟨gb164, 2, none⟩ = some (.int .i64 0) := (blk_cell BK164.out 2).trans rfl; have hcz16_3 : w13.cell? ⟨gb164, 3, none⟩ = some (.int .i64 0) := (blk_cell BK164.out 3).trans rfl; have hfz16_0 := blk_frozen BK164.out 0; have hfz16_1 := blk_frozen BK164.out 1; have hfz16_2 := blk_frozen BK164.out 2; have hfz16_3 := blk_frozen BK164.out 3; have hnb17 := NB157_158.out; have hnc17 := NB158_157.out; have hcz18_0 : w13.cell? ⟨gb157, 0, none⟩ = some (.int .i64 a5_0) := (blk_cell BK157.out 0).trans rfl; have hcz18_1 : w13.cell? ⟨gb157, 1, none⟩ = some (.int .i64 a5_1) := (blk_cell BK157.out 1).trans rfl; have hfz18_0 := blk_frozen BK157.out 0; have hfz18_1 := blk_frozen BK157.out 1) | ((with_reducible refine gate_dst (N := 16) rfl ?_); (try (refine gate_guard (by rfl) ?_; dsimp only)); refine box_event ?hg (N := 16) ?hd (cs := #[.int .i64 0, .int .i64 0, .int .i64 0, .int .i64 0, .int .i64 0]) (t := 41) ?hr ?_; (case hd => rfl); (case hg => rfl); (case hr => exact zq4); intro gb165 hg w19 hbox hb; have BK165 := Aside0.mk (hbox); have GW165 := Aside0.mk ((zq5 : w.heap.size ≤ gb165)); have GE165 := Aside0.mk ((zq5 : w.heap.size ≤ gb165)); replace HB := Aside0.mk (below_step (zW HB) hb); have NB157_165 := Aside0.mk ((zq38 : gb157 ≠ gb165)); have NB165_157 := Aside0.mk ((zq40 : gb165 ≠ gb157)); replace BK157 := Aside0.mk (blk_below (g := gb157) (o := .cells #[.int .i64 a5_0, .int .i64 a5_1] 39 (0, 0)) (zq39) hb); have NB158_165 := Aside0.mk ((zq41 : gb158 ≠ gb165)); have NB165_158 := Aside0.mk ((zq43 : gb165 ≠ gb158)); replace BK158 := Aside0.mk (blk_below (g := gb158) (o := .cells #[.int .i64 0, .int .i64 0, .int .i64 0, .int .i64 0, .int .i64 0] 41 (0, 0)) (zq42) hb); have NB164_165 := Aside0.mk ((zq44 : gb164 ≠ gb165)); have NB165_164 := Aside0.mk ((zq46 : gb165 ≠ gb164)); replace BK164 := Aside0.mk (blk_below (g := gb164) (o := .cells #[.int .i64 t159, .int .i64 t160, .int .i64 t161, .int .i64 t162] 86 (0, 0)) (zq45) hb); clear hb hbox hg; have hnb20 := NB165_157.out; have hnc20 := NB157_165.out; have hnb21 := NB165_158.out; have hnc21 := NB158_165.out; have hnb22 := NB165_164.out; have hnc22 := NB164_165.out; have hcz23_0 : w19.cell? ⟨gb165, 0, none⟩ = some (.int .i64 0) := (blk_cell BK165.out 0).trans rfl; have hcz23_1 : w19.cell? ⟨gb165, 1, none⟩ = some (.int .i64 0) := (blk_cell BK165.out 1).trans rfl; have hcz23_2 : w19.cell? ⟨gb165, 2, none⟩ = some (.int .i64 0) := (blk_cell BK165.out 2).trans rfl; have hcz23_3 : w19.cell? ⟨gb165, 3, none⟩ = some (.int .i64 0) := (blk_cell BK165.out 3).trans rfl; have hcz23_4 : w19.cell? ⟨gb165, 4, none⟩ = some (.int .i64 0) := (blk_cell BK165.out 4).trans rfl; have hfz23_0 := blk_frozen BK165.out 0; have hfz23_1 := blk_frozen BK165.out 1; have hfz23_2 := blk_frozen BK165.out 2; have hfz23_3 := blk_frozen BK165.out 3; have hfz23_4 := blk_frozen BK165.out 4; have hcz24_0 : w19.cell? ⟨gb164, 0, none⟩ = some (.int .i64 t159) := (blk_cell BK164.out 0).trans rfl; have hcz24_1 : w19.cell? ⟨gb164, 1, none⟩ = some (.int .i64 t160) := (blk_cell BK164.out 1).trans rfl; have hcz24_2 : w19.cell? ⟨gb164, 2, none⟩ = some (.int .i64 t161) := (blk_cell BK164.out 2).trans rfl; have hcz24_3 : w19.cell? ⟨gb164, 3, none⟩ = some (.int .i64 t162) := (blk_cell BK164.out 3).trans rfl; have hfz24_0 := blk_frozen BK164.out 0; have hfz24_1 := blk_frozen BK164.out 1; have hfz24_2 := blk_frozen BK164.out 2; have hfz24_3 := blk_frozen BK164.out 3; have hcz25_0 : w19.cell? ⟨gb158, 0, none⟩ = some (.int .i64 0) := (blk_cell BK158.out 0).trans rfl; have hcz25_1 : w19.cell? ⟨gb158, 1, none⟩ = some (.int .i64 0) := (blk_cell BK158.out 1).trans rfl; have hcz25_2 : w19.cell? ⟨gb158, 2, none⟩ = some (.int .i64 0) := (blk_cell BK158.out 2).trans rfl; have hcz25_3 : w19.cell? ⟨gb158, 3, none⟩ = some (.int .i64 0) := (blk_cell BK158.out 3).trans rfl; have hcz25_4 : w19.cell? ⟨gb158, 4, none⟩ = some (.int .i64 0) := (blk_cell BK158.out 4).trans rfl; have hfz25_0 := blk_frozen BK158.out 0; have hfz25_1 := blk_frozen BK158.out 1; have hfz25_2 := blk_frozen BK158.out 2; have hfz25_3 := blk_frozen BK158.out 3; have hfz25_4 := blk_frozen BK158.out 4))
  refine bodyPost_ret (results_ct rfl _ _ gb158 41 #[.int .i64 0, .int .i64 0, .int .i64 0, .int .i64 0, .int .i64 0] (0, 0) _ rfl (zq47) Tryz.underlying41 rfl (by kernel_rfl)) rfl ?_
  exact ⟨zq6, zq52⟩
 rw [if_neg c9] at H
 have c9b0 : (!(t159 == 2) || (!(t162 == (a4.size : Int)))) = false := by simpa using c9
 clear c9
 replace H := Option.bind_eq_some_iff.mp H
 obtain ⟨t166, A260, H⟩ := H
 replace H : (if t166 = true then (some (a2, a3, t160, a5_0, a5_1, 0)) else (some (0, 0, 0, 0, 0, 220))) = some (r1, r2, r3, r4, r5, r6) := H
 have A26 := Aside0.mk A260
 clear A260
 by_cases c27 : t166 = true
 rotate_left
 ·replace c27 := Bool.eq_false_iff.mpr c27
  subst c27
  have H1 : (some (0, 0, 0, 0, 0, 220)) = some (r1, r2, r3, r4, r5, r6) := by rw [if_neg (show ¬ (false = true) by decide)] at H; exact H
  clear H
  have H := H1
  clear H1
  simp only [Option.some.injEq, Prod.mk.injEq] at H
  obtain ⟨rfl, rfl, rfl, rfl, rfl, rfl⟩ := H
  go_enter Tryz.func22, Tryz.ntmps22
  go_wp2_with (first | ((with_reducible refine gate_dst (N := 11) rfl ?_); (try (refine gate_guard (by rfl) ?_; dsimp only)); refine box_event ?hg (N := 11) ?hd (cs := #[.int .i64 a5_0, .int .i64 a5_1]) (t := 39) ?hr ?_; (case hd => rfl); (case hg => rfl); (case hr => exact zq4); intro gb157 hg w46 hbox hb; have BK157 := Aside0.mk (hbox); have GW157 := Aside0.mk ((zq5 : w.heap.size ≤ gb157)); have GE157 := Aside0.mk ((zq5 : w.heap.size ≤ gb157)); replace HB := Aside0.mk (below_step (zW HB) hb); clear hb hbox hg) | ((with_reducible refine gate_dst (N := 12) rfl ?_); (try (refine gate_guard (by rfl) ?_; dsimp only)); refine box_event ?hg (N := 12) ?hd (cs := #[.int .i64 0, .int .i64 0, .int .i64 0, .int .i64 0, .int .i64 0]) (t := 41) ?hr ?_; (case hd => rfl); (case hg => rfl); (case hr => exact zq4); intro gb158 hg w47 hbox hb; have BK158 := Aside0.mk (hbox); have GW158 := Aside0.mk ((zq5 : w.heap.size ≤ gb158)); have GE158 := Aside0.mk ((zq5 : w.heap.size ≤ gb158)); replace HB := Aside0.mk (below_step (zW HB) hb); have NB157_158 := Aside0.mk ((zq34 : gb157 ≠ gb158)); have NB158_157 := Aside0.mk ((zq35 : gb158 ≠ gb157)); replace BK157 := Aside0.mk (blk_below (zB BK157) hb); clear hb hbox hg) | ((with_reducible refine gate_callee (f := 43) rfl ?_); refine goesL_ (some 21) rfl rfl Tryz.func43 (by kernel_rfl) rfl #[.slice A0 l0.length c0, .string a4, .int .i64 a1] rfl zG ?_; (with_reducible refine (plan_Read.calls k _ _ l0 a4 a1 t159 t160 t161 t162 t163 _ ?side1 ?side2 A7.out).mono ?_); (case side1 => exact zq11); (case side2 => exact zq12); rintro e w48 ⟨rfl, hb⟩; refine ⟨_, rfl, ?_⟩; replace BK157 := Aside0.mk (blk_below (zB BK157) hb); replace BK158 := Aside0.mk (blk_below (zB BK158) hb); replace HB := Aside0.mk (below_step (zW HB) hb); (try clear hb); (try clear hb2); (try clear hk); (try clear hi)) | ((with_reducible refine gate_dst (N := 14) rfl ?_); (try (refine gate_guard (by rfl) ?_; dsimp only)); refine box_event ?hg (N := 14) ?hd (cs := #[.int .i64 0, .int .i64 0, .int .i64 0, .int .i64 0]) (t := 86) ?hr ?_; (case hd => rfl); (case hg => rfl); (case hr => exact zq4); intro gb164 hg w49 hbox hb; have BK164 := Aside0.mk (hbox); have GW164 := Aside0.mk ((zq5 : w.heap.size ≤ gb164)); have GE164 := Aside0.mk ((zq5 : w.heap.size ≤ gb164)); replace HB := Aside0.mk (below_step (zW HB) hb); have NB157_164 := Aside0.mk ((zq34 : gb157 ≠ gb164)); have NB164_157 := Aside0.mk ((zq35 : gb164 ≠ gb157)); replace BK157 := Aside0.mk (blk_below (zB BK157) hb); have NB158_164 := Aside0.mk ((zq36 : gb158 ≠ gb164)); have NB164_158 := Aside0.mk ((zq37 : gb164 ≠ gb158)); replace BK158 := Aside0.mk (blk_below (zB BK158) hb); clear hb hbox hg; have hnb50 := NB164_157.out; have hnc50 := NB157_164.out; have hnb51 := NB164_158.out; have hnc51 := NB158_164.out; have hcz52_0 : w49.cell? ⟨gb164, 0, none⟩ = some (.int .i64 0) := (blk_cell BK164.out 0).trans rfl; have hcz52_1 : w49.cell? ⟨gb164, 1, none⟩ = some (.int .i64 0) := (blk_cell BK164.out 1).trans rfl; have hcz52_2 : w49.cell? ⟨gb164, 2, none⟩ = some (.int .i64 0) := (blk_cell BK164.out 2).trans rfl; have hcz52_3 : w49.cell? ⟨gb164, 3, none⟩ = some (.int .i64 0) := (blk_cell BK164.out 3).trans rfl; have hfz52_0 := blk_frozen BK164.out 0; have hfz52_1 := blk_frozen BK164.out 1; have hfz52_2 := blk_frozen BK164.out 2; have hfz52_3 := blk_frozen BK164.out 3; have hnb53 := NB157_158.out; have hnc53 := NB158_157.out; have hcz54_0 : w49.cell? ⟨gb157, 0, none⟩ = some (.int .i64 a5_0) := (blk_cell BK157.out 0).trans rfl; have hcz54_1 : w49.cell? ⟨gb157, 1, none⟩ = some (.int .i64 a5_1) := (blk_cell BK157.out 1).trans rfl; have hfz54_0 := blk_frozen BK157.out 0; have hfz54_1 := blk_frozen BK157.out 1) | ((with_reducible refine gate_dst (N := 16) rfl ?_); (try (refine gate_guard (by rfl) ?_; dsimp only)); refine box_event ?hg (N := 16) ?hd (cs := #[.int .i64 0, .int .i64 0, .int .i64 0, .int .i64 0, .int .i64 0]) (t := 41) ?hr ?_; (case hd => rfl); (case hg => rfl); (case hr => exact zq4); intro gb165 hg w55 hbox hb; have BK165 := Aside0.mk (hbox); have GW165 := Aside0.mk ((zq5 : w.heap.size ≤ gb165)); have GE165 := Aside0.mk ((zq5 : w.heap.size ≤ gb165)); replace HB := Aside0.mk (below_step (zW HB) hb); have NB157_165 := Aside0.mk ((zq38 : gb157 ≠ gb165)); have NB165_157 := Aside0.mk ((zq40 : gb165 ≠ gb157)); replace BK157 := Aside0.mk (blk_below (g := gb157) (o := .cells #[.int .i64 a5_0, .int .i64 a5_1] 39 (0, 0)) (zq39) hb); have NB158_165 := Aside0.mk ((zq41 : gb158 ≠ gb165)); have NB165_158 := Aside0.mk ((zq43 : gb165 ≠ gb158)); replace BK158 := Aside0.mk (blk_below (g := gb158) (o := .cells #[.int .i64 0, .int .i64 0, .int .i64 0, .int .i64 0, .int .i64 0] 41 (0, 0)) (zq42) hb); have NB164_165 := Aside0.mk ((zq44 : gb164 ≠ gb165)); have NB165_164 := Aside0.mk ((zq46 : gb165 ≠ gb164)); replace BK164 := Aside0.mk (blk_below (g := gb164) (o := .cells #[.int .i64 t159, .int .i64 t160, .int .i64 t161, .int .i64 t162] 86 (0, 0)) (zq45) hb); clear hb hbox hg; have hnb56 := NB165_157.out; have hnc56 := NB157_165.out; have hnb57 := NB165_158.out; have hnc57 := NB158_165.out; have hnb58 := NB165_164.out; have hnc58 := NB164_165.out; have hcz59_0 : w55.cell? ⟨gb165, 0, none⟩ = some (.int .i64 0) := (blk_cell BK165.out 0).trans rfl; have hcz59_1 : w55.cell? ⟨gb165, 1, none⟩ = some (.int .i64 0) := (blk_cell BK165.out 1).trans rfl; have hcz59_2 : w55.cell? ⟨gb165, 2, none⟩ = some (.int .i64 0) := (blk_cell BK165.out 2).trans rfl; have hcz59_3 : w55.cell? ⟨gb165, 3, none⟩ = some (.int .i64 0) := (blk_cell BK165.out 3).trans rfl; have hcz59_4 : w55.cell? ⟨gb165, 4, none⟩ = some (.int .i64 0) := (blk_cell BK165.out 4).trans rfl; have hfz59_0 := blk_frozen BK165.out 0; have hfz59_1 := blk_frozen BK165.out 1; have hfz59_2 := blk_frozen BK165.out 2; have hfz59_3 := blk_frozen BK165.out 3; have hfz59_4 := blk_frozen BK165.out 4; have hcz60_0 : w55.cell? ⟨gb164, 0, none⟩ = some (.int .i64 t159) := (blk_cell BK164.out 0).trans rfl; have hcz60_1 : w55.cell? ⟨gb164, 1, none⟩ = some (.int .i64 t160) := (blk_cell BK164.out 1).trans rfl; have hcz60_2 : w55.cell? ⟨gb164, 2, none⟩ = some (.int .i64 t161) := (blk_cell BK164.out 2).trans rfl; have hcz60_3 : w55.cell? ⟨gb164, 3, none⟩ = some (.int .i64 t162) := (blk_cell BK164.out 3).trans rfl; have hfz60_0 := blk_frozen BK164.out 0; have hfz60_1 := blk_frozen BK164.out 1; have hfz60_2 := blk_frozen BK164.out 2; have hfz60_3 := blk_frozen BK164.out 3) | (go_at_call 44; (with_reducible refine (forward_isFormed.calls a2 a3 t160 a5_0 a5_1 false _ A26.out).mono ?_); rintro e w61 ⟨rfl, hb⟩; replace BK157 := Aside0.mk (blk_below (g := gb157) (o := .cells #[.int .i64 a5_0, .int .i64 a5_1] 39 (0, 0)) (zq48) hb); replace BK158 := Aside0.mk (blk_below (g := gb158) (o := .cells #[.int .i64 0, .int .i64 0, .int .i64 0, .int .i64 0, .int .i64 0] 41 (0, 0)) (zq49) hb); replace BK164 := Aside0.mk (blk_below (g := gb164) (o := .cells #[.int .i64 t159, .int .i64 t160, .int .i64 t161, .int .i64 t162] 86 (0, 0)) (zq50) hb); replace BK165 := Aside0.mk (blk_below (g := gb165) (o := .cells #[.int .i64 a2, .int .i64 a3, .int .i64 t160, .int .i64 a5_0, .int .i64 a5_1] 41 (0, 0)) (zq51) hb); replace HB := Aside0.mk (below_step (zW HB) hb); (try clear hb); (try clear hb2); (try clear hk); (try clear hi); have hcz62_0 : w61.cell? ⟨gb158, 0, none⟩ = some (.int .i64 0) := (blk_cell BK158.out 0).trans rfl; have hcz62_1 : w61.cell? ⟨gb158, 1, none⟩ = some (.int .i64 0) := (blk_cell BK158.out 1).trans rfl; have hcz62_2 : w61.cell? ⟨gb158, 2, none⟩ = some (.int .i64 0) := (blk_cell BK158.out 2).trans rfl; have hcz62_3 : w61.cell? ⟨gb158, 3, none⟩ = some (.int .i64 0) := (blk_cell BK158.out 3).trans rfl; have hcz62_4 : w61.cell? ⟨gb158, 4, none⟩ = some (.int .i64 0) := (blk_cell BK158.out 4).trans rfl; have hfz62_0 := blk_frozen BK158.out 0; have hfz62_1 := blk_frozen BK158.out 1; have hfz62_2 := blk_frozen BK158.out 2; have hfz62_3 := blk_frozen BK158.out 3; have hfz62_4 := blk_frozen BK158.out 4))
  refine bodyPost_ret (results_ct rfl _ _ gb158 41 #[.int .i64 0, .int .i64 0, .int .i64 0, .int .i64 0, .int .i64 0] (0, 0) _ rfl (by (with_reducible repeat (first | refine blk_drewN ?_ _ | refine blk_drew ?_ | refine blk_alloc ?_ _)); refine blk_put (cs := #[.int .i64 0, .int .i64 0, .int .i64 0, .int .i64 0, .int .i64 0]) ?_ 4 _ rfl; (with_reducible repeat (first | refine blk_drewN ?_ _ | refine blk_drew ?_ | refine blk_alloc ?_ _)); refine blk_put (cs := #[.int .i64 0, .int .i64 0, .int .i64 0, .int .i64 0, .int .i64 0]) ?_ 3 _ rfl; (with_reducible repeat (first | refine blk_drewN ?_ _ | refine blk_drew ?_ | refine blk_alloc ?_ _)); refine blk_put (cs := #[.int .i64 0, .int .i64 0, .int .i64 0, .int .i64 0, .int .i64 0]) ?_ 2 _ rfl; (with_reducible repeat (first | refine blk_drewN ?_ _ | refine blk_drew ?_ | refine blk_alloc ?_ _)); refine blk_put (cs := #[.int .i64 0, .int .i64 0, .int .i64 0, .int .i64 0, .int .i64 0]) ?_ 1 _ rfl; (with_reducible repeat (first | refine blk_drewN ?_ _ | refine blk_drew ?_ | refine blk_alloc ?_ _)); refine blk_put (cs := #[.int .i64 0, .int .i64 0, .int .i64 0, .int .i64 0, .int .i64 0]) ?_ 0 _ rfl; (with_reducible repeat (first | refine blk_drewN ?_ _ | refine blk_drew ?_ | refine blk_alloc ?_ _)); exact BK158.out) Tryz.underlying41 rfl (by kernel_rfl)) rfl ?_
  exact ⟨zq6, zq52⟩
 subst c27
 have H1 : (some (a2, a3, t160, a5_0, a5_1, 0)) = some (r1, r2, r3, r4, r5, r6) := by rw [if_pos rfl] at H; exact H
 clear H
 have H := H1
 clear H1
 simp only [Option.some.injEq, Prod.mk.injEq] at H
 obtain ⟨rfl, rfl, rfl, rfl, rfl, rfl⟩ := H
 go_enter Tryz.func22, Tryz.ntmps22
 go_wp2_with (first | ((with_reducible refine gate_dst (N := 11) rfl ?_); (try (refine gate_guard (by rfl) ?_; dsimp only)); refine box_event ?hg (N := 11) ?hd (cs := #[.int .i64 a5_0, .int .i64 a5_1]) (t := 39) ?hr ?_; (case hd => rfl); (case hg => rfl); (case hr => exact zq4); intro gb157 hg w28 hbox hb; have BK157 := Aside0.mk (hbox); have GW157 := Aside0.mk ((zq5 : w.heap.size ≤ gb157)); have GE157 := Aside0.mk ((zq5 : w.heap.size ≤ gb157)); replace HB := Aside0.mk (below_step (zW HB) hb); clear hb hbox hg) | ((with_reducible refine gate_dst (N := 12) rfl ?_); (try (refine gate_guard (by rfl) ?_; dsimp only)); refine box_event ?hg (N := 12) ?hd (cs := #[.int .i64 0, .int .i64 0, .int .i64 0, .int .i64 0, .int .i64 0]) (t := 41) ?hr ?_; (case hd => rfl); (case hg => rfl); (case hr => exact zq4); intro gb158 hg w29 hbox hb; have BK158 := Aside0.mk (hbox); have GW158 := Aside0.mk ((zq5 : w.heap.size ≤ gb158)); have GE158 := Aside0.mk ((zq5 : w.heap.size ≤ gb158)); replace HB := Aside0.mk (below_step (zW HB) hb); have NB157_158 := Aside0.mk ((zq34 : gb157 ≠ gb158)); have NB158_157 := Aside0.mk ((zq35 : gb158 ≠ gb157)); replace BK157 := Aside0.mk (blk_below (zB BK157) hb); clear hb hbox hg) | ((with_reducible refine gate_callee (f := 43) rfl ?_); refine goesL_ (some 21) rfl rfl Tryz.func43 (by kernel_rfl) rfl #[.slice A0 l0.length c0, .string a4, .int .i64 a1] rfl zG ?_; (with_reducible refine (plan_Read.calls k _ _ l0 a4 a1 t159 t160 t161 t162 t163 _ ?side1 ?side2 A7.out).mono ?_); (case side1 => exact zq11); (case side2 => exact zq12); rintro e w30 ⟨rfl, hb⟩; refine ⟨_, rfl, ?_⟩; replace BK157 := Aside0.mk (blk_below (zB BK157) hb); replace BK158 := Aside0.mk (blk_below (zB BK158) hb); replace HB := Aside0.mk (below_step (zW HB) hb); (try clear hb); (try clear hb2); (try clear hk); (try clear hi)) | ((with_reducible refine gate_dst (N := 14) rfl ?_); (try (refine gate_guard (by rfl) ?_; dsimp only)); refine box_event ?hg (N := 14) ?hd (cs := #[.int .i64 0, .int .i64 0, .int .i64 0, .int .i64 0]) (t := 86) ?hr ?_; (case hd => rfl); (case hg => rfl); (case hr => exact zq4); intro gb164 hg w31 hbox hb; have BK164 := Aside0.mk (hbox); have GW164 := Aside0.mk ((zq5 : w.heap.size ≤ gb164)); have GE164 := Aside0.mk ((zq5 : w.heap.size ≤ gb164)); replace HB := Aside0.mk (below_step (zW HB) hb); have NB157_164 := Aside0.mk ((zq34 : gb157 ≠ gb164)); have NB164_157 := Aside0.mk ((zq35 : gb164 ≠ gb157)); replace BK157 := Aside0.mk (blk_below (zB BK157) hb); have NB158_164 := Aside0.mk ((zq36 : gb158 ≠ gb164)); have NB164_158 := Aside0.mk ((zq37 : gb164 ≠ gb158)); replace BK158 := Aside0.mk (blk_below (zB BK158) hb); clear hb hbox hg; have hnb32 := NB164_157.out; have hnc32 := NB157_164.out; have hnb33 := NB164_158.out; have hnc33 := NB158_164.out; have hcz34_0 : w31.cell? ⟨gb164, 0, none⟩ = some (.int .i64 0) := (blk_cell BK164.out 0).trans rfl; have hcz34_1 : w31.cell? ⟨gb164, 1, none⟩ = some (.int .i64 0) := (blk_cell BK164.out 1).trans rfl; have hcz34_2 : w31.cell? ⟨gb164, 2, none⟩ = some (.int .i64 0) := (blk_cell BK164.out 2).trans rfl; have hcz34_3 : w31.cell? ⟨gb164, 3, none⟩ = some (.int .i64 0) := (blk_cell BK164.out 3).trans rfl; have hfz34_0 := blk_frozen BK164.out 0; have hfz34_1 := blk_frozen BK164.out 1; have hfz34_2 := blk_frozen BK164.out 2; have hfz34_3 := blk_frozen BK164.out 3; have hnb35 := NB157_158.out; have hnc35 := NB158_157.out; have hcz36_0 : w31.cell? ⟨gb157, 0, none⟩ = some (.int .i64 a5_0) := (blk_cell BK157.out 0).trans rfl; have hcz36_1 : w31.cell? ⟨gb157, 1, none⟩ = some (.int .i64 a5_1) := (blk_cell BK157.out 1).trans rfl; have hfz36_0 := blk_frozen BK157.out 0; have hfz36_1 := blk_frozen BK157.out 1) | ((with_reducible refine gate_dst (N := 16) rfl ?_); (try (refine gate_guard (by rfl) ?_; dsimp only)); refine box_event ?hg (N := 16) ?hd (cs := #[.int .i64 0, .int .i64 0, .int .i64 0, .int .i64 0, .int .i64 0]) (t := 41) ?hr ?_; (case hd => rfl); (case hg => rfl); (case hr => exact zq4); intro gb165 hg w37 hbox hb; have BK165 := Aside0.mk (hbox); have GW165 := Aside0.mk ((zq5 : w.heap.size ≤ gb165)); have GE165 := Aside0.mk ((zq5 : w.heap.size ≤ gb165)); replace HB := Aside0.mk (below_step (zW HB) hb); have NB157_165 := Aside0.mk ((zq38 : gb157 ≠ gb165)); have NB165_157 := Aside0.mk ((zq40 : gb165 ≠ gb157)); replace BK157 := Aside0.mk (blk_below (g := gb157) (o := .cells #[.int .i64 a5_0, .int .i64 a5_1] 39 (0, 0)) (zq39) hb); have NB158_165 := Aside0.mk ((zq41 : gb158 ≠ gb165)); have NB165_158 := Aside0.mk ((zq43 : gb165 ≠ gb158)); replace BK158 := Aside0.mk (blk_below (g := gb158) (o := .cells #[.int .i64 0, .int .i64 0, .int .i64 0, .int .i64 0, .int .i64 0] 41 (0, 0)) (zq42) hb); have NB164_165 := Aside0.mk ((zq44 : gb164 ≠ gb165)); have NB165_164 := Aside0.mk ((zq46 : gb165 ≠ gb164)); replace BK164 := Aside0.mk (blk_below (g := gb164) (o := .cells #[.int .i64 t159, .int .i64 t160, .int .i64 t161, .int .i64 t162] 86 (0, 0)) (zq45) hb); clear hb hbox hg; have hnb38 := NB165_157.out; have hnc38 := NB157_165.out; have hnb39 := NB165_158.out; have hnc39 := NB158_165.out; have hnb40 := NB165_164.out; have hnc40 := NB164_165.out; have hcz41_0 : w37.cell? ⟨gb165, 0, none⟩ = some (.int .i64 0) := (blk_cell BK165.out 0).trans rfl; have hcz41_1 : w37.cell? ⟨gb165, 1, none⟩ = some (.int .i64 0) := (blk_cell BK165.out 1).trans rfl; have hcz41_2 : w37.cell? ⟨gb165, 2, none⟩ = some (.int .i64 0) := (blk_cell BK165.out 2).trans rfl; have hcz41_3 : w37.cell? ⟨gb165, 3, none⟩ = some (.int .i64 0) := (blk_cell BK165.out 3).trans rfl; have hcz41_4 : w37.cell? ⟨gb165, 4, none⟩ = some (.int .i64 0) := (blk_cell BK165.out 4).trans rfl; have hfz41_0 := blk_frozen BK165.out 0; have hfz41_1 := blk_frozen BK165.out 1; have hfz41_2 := blk_frozen BK165.out 2; have hfz41_3 := blk_frozen BK165.out 3; have hfz41_4 := blk_frozen BK165.out 4; have hcz42_0 : w37.cell? ⟨gb164, 0, none⟩ = some (.int .i64 t159) := (blk_cell BK164.out 0).trans rfl; have hcz42_1 : w37.cell? ⟨gb164, 1, none⟩ = some (.int .i64 t160) := (blk_cell BK164.out 1).trans rfl; have hcz42_2 : w37.cell? ⟨gb164, 2, none⟩ = some (.int .i64 t161) := (blk_cell BK164.out 2).trans rfl; have hcz42_3 : w37.cell? ⟨gb164, 3, none⟩ = some (.int .i64 t162) := (blk_cell BK164.out 3).trans rfl; have hfz42_0 := blk_frozen BK164.out 0; have hfz42_1 := blk_frozen BK164.out 1; have hfz42_2 := blk_frozen BK164.out 2; have hfz42_3 := blk_frozen BK164.out 3) | (go_at_call 44; (with_reducible refine (forward_isFormed.calls a2 a3 t160 a5_0 a5_1 true _ A26.out).mono ?_); rintro e w43 ⟨rfl, hb⟩; replace BK157 := Aside0.mk (blk_below (g := gb157) (o := .cells #[.int .i64 a5_0, .int .i64 a5_1] 39 (0, 0)) (zq48) hb); replace BK158 := Aside0.mk (blk_below (g := gb158) (o := .cells #[.int .i64 0, .int .i64 0, .int .i64 0, .int .i64 0, .int .i64 0] 41 (0, 0)) (zq49) hb); replace BK164 := Aside0.mk (blk_below (g := gb164) (o := .cells #[.int .i64 t159, .int .i64 t160, .int .i64 t161, .int .i64 t162] 86 (0, 0)) (zq50) hb); replace BK165 := Aside0.mk (blk_below (g := gb165) (o := .cells #[.int .i64 a2, .int .i64 a3, .int .i64 t160, .int .i64 a5_0, .int .i64 a5_1] 41 (0, 0)) (zq51) hb); replace HB := Aside0.mk (below_step (zW HB) hb); (try clear hb); (try clear hb2); (try clear hk); (try clear hi); have hcz44_0 : w43.cell? ⟨gb165, 0, none⟩ = some (.int .i64 a2) := (blk_cell BK165.out 0).trans rfl; have hcz44_1 : w43.cell? ⟨gb165, 1, none⟩ = some (.int .i64 a3) := (blk_cell BK165.out 1).trans rfl; have hcz44_2 : w43.cell? ⟨gb165, 2, none⟩ = some (.int .i64 t160) := (blk_cell BK165.out 2).trans rfl; have hcz44_3 : w43.cell? ⟨gb165, 3, none⟩ = some (.int .i64 a5_0) := (blk_cell BK165.out 3).trans rfl; have hcz44_4 : w43.cell? ⟨gb165, 4, none⟩ = some (.int .i64 a5_1) := (blk_cell BK165.out 4).trans rfl; have hfz44_0 := blk_frozen BK165.out 0; have hfz44_1 := blk_frozen BK165.out 1; have hfz44_2 := blk_frozen BK165.out 2; have hfz44_3 := blk_frozen BK165.out 3; have hfz44_4 := blk_frozen BK165.out 4; have hcz45_0 : w43.cell? ⟨gb158, 0, none⟩ = some (.int .i64 0) := (blk_cell BK158.out 0).trans rfl; have hcz45_1 : w43.cell? ⟨gb158, 1, none⟩ = some (.int .i64 0) := (blk_cell BK158.out 1).trans rfl; have hcz45_2 : w43.cell? ⟨gb158, 2, none⟩ = some (.int .i64 0) := (blk_cell BK158.out 2).trans rfl; have hcz45_3 : w43.cell? ⟨gb158, 3, none⟩ = some (.int .i64 0) := (blk_cell BK158.out 3).trans rfl; have hcz45_4 : w43.cell? ⟨gb158, 4, none⟩ = some (.int .i64 0) := (blk_cell BK158.out 4).trans rfl; have hfz45_0 := blk_frozen BK158.out 0; have hfz45_1 := blk_frozen BK158.out 1; have hfz45_2 := blk_frozen BK158.out 2; have hfz45_3 := blk_frozen BK158.out 3; have hfz45_4 := blk_frozen BK158.out 4))
 refine bodyPost_ret (results_ct rfl _ _ gb158 41 #[.int .i64 a2, .int .i64 a3, .int .i64 t160, .int .i64 a5_0, .int .i64 a5_1] (0, 0) _ rfl (by (with_reducible repeat (first | refine blk_drewN ?_ _ | refine blk_drew ?_ | refine blk_alloc ?_ _)); refine blk_put (cs := #[.int .i64 a2, .int .i64 a3, .int .i64 t160, .int .i64 a5_0, .int .i64 0]) ?_ 4 _ rfl; (with_reducible repeat (first | refine blk_drewN ?_ _ | refine blk_drew ?_ | refine blk_alloc ?_ _)); refine blk_put (cs := #[.int .i64 a2, .int .i64 a3, .int .i64 t160, .int .i64 0, .int .i64 0]) ?_ 3 _ rfl; (with_reducible repeat (first | refine blk_drewN ?_ _ | refine blk_drew ?_ | refine blk_alloc ?_ _)); refine blk_put (cs := #[.int .i64 a2, .int .i64 a3, .int .i64 0, .int .i64 0, .int .i64 0]) ?_ 2 _ rfl; (with_reducible repeat (first | refine blk_drewN ?_ _ | refine blk_drew ?_ | refine blk_alloc ?_ _)); refine blk_put (cs := #[.int .i64 a2, .int .i64 0, .int .i64 0, .int .i64 0, .int .i64 0]) ?_ 1 _ rfl; (with_reducible repeat (first | refine blk_drewN ?_ _ | refine blk_drew ?_ | refine blk_alloc ?_ _)); refine blk_put (cs := #[.int .i64 0, .int .i64 0, .int .i64 0, .int .i64 0, .int .i64 0]) ?_ 0 _ rfl; (with_reducible repeat (first | refine blk_drewN ?_ _ | refine blk_drew ?_ | refine blk_alloc ?_ _)); exact BK158.out) Tryz.underlying41 rfl (by kernel_rfl)) rfl ?_
 exact ⟨zq6, zq52⟩
def dialtoneref22_Same.f (k : Nat) (a0_0 : Int) (l0_1 : List Int) (l0_2 : List Int) (a1_0 : Int) (l1_1 : List Int) (l1_2 : List Int) : Option (Bool) := if a0_0 = a1_0 then ((dialtoneref22_Ints.f k l0_1 l1_1).bind fun t169 => (if t169 = true then ((dialtoneref22_Ints.f k l0_2 l1_2).bind fun t170 => (some t170)) else (some false))) else (some false)
theorem dialtoneref22_Same.mono : ∀ a0 a1 a2 a3 a4 a5 k, LeO (dialtoneref22_Same.f k a0 a1 a2 a3 a4 a5) (dialtoneref22_Same.f (k + 1) a0 a1 a2 a3 a4 a5) := by
 intro a0 a1 a2 a3 a4 a5 k
 unfold dialtoneref22_Same.f
 repeat' first
  | (with_reducible exact dialtoneref22_Ints.mono _ _ _)
  | (with_reducible exact LeO.refl _)
  | (with_reducible exact LeO.none _)
  | (with_reducible refine LeO.ite ?_ ?_)
  | (with_reducible refine LeO.bind ?_ (fun _ => ?_))
  | exact dialtoneref22_Ints.mono _ _ _
  | exact LeO.none _
  | refine LeO.ite ?_ ?_
  | refine LeO.bind ?_ (fun _ => ?_)
set_option maxHeartbeats 8000000 in
set_option maxRecDepth 100000 in
theorem dialtoneref22_Same.calls (k : Nat) (a0_0 : Int) (A0_1 : Option Addr) (c0_1 : Nat) (l0_1 : List Int) (A0_2 : Option Addr) (c0_2 : Nat) (l0_2 : List Int) (a1_0 : Int) (A1_1 : Option Addr) (c1_1 : Nat) (l1_1 : List Int) (A1_2 : Option Addr) (c1_2 : Nat) (l1_2 : List Int) (r : Bool) (w : World) (hr0_1 : Kd.C (Kd.int .i64) w A0_1 l0_1.length l0_1) (hc0_1 : l0_1.length ≤ c0_1) (hr0_2 : Kd.C (Kd.int .i64) w A0_2 l0_2.length l0_2) (hc0_2 : l0_2.length ≤ c0_2) (hr1_1 : Kd.C (Kd.int .i64) w A1_1 l1_1.length l1_1) (hc1_1 : l1_1.length ≤ c1_1) (hr1_2 : Kd.C (Kd.int .i64) w A1_2 l1_2.length l1_2) (hc1_2 : l1_2.length ≤ c1_2) (h : dialtoneref22_Same.f k a0_0 l0_1 l0_2 a1_0 l1_1 l1_2 = some r) :
 Calls Tryz.prog 15 #[.agg #[.int .i64 a0_0, .slice A0_1 l0_1.length c0_1, .slice A0_2 l0_2.length c0_2], .agg #[.int .i64 a1_0, .slice A1_1 l1_1.length c1_1, .slice A1_2 l1_2.length c1_2]] w fun e w' => e = .returned (.bool r) ∧ Below w.heap.size w w' := by
 have hu31 := Tryz.underlying31
 have HR0_1 := Aside0.mk hr0_1
 have HC0_1 := Aside0.mk hc0_1
 clear hr0_1 hc0_1
 have HR0_2 := Aside0.mk hr0_2
 have HC0_2 := Aside0.mk hc0_2
 clear hr0_2 hc0_2
 have HR1_1 := Aside0.mk hr1_1
 have HC1_1 := Aside0.mk hc1_1
 clear hr1_1 hc1_1
 have HR1_2 := Aside0.mk hr1_2
 have HC1_2 := Aside0.mk hc1_2
 clear hr1_2 hc1_2
 have HB := Aside0.mk (Below.refl w.heap.size w)
 have H : (if a0_0 = a1_0 then ((dialtoneref22_Ints.f k l0_1 l1_1).bind fun t169 => (if t169 = true then ((dialtoneref22_Ints.f k l0_2 l1_2).bind fun t170 => (some t170)) else (some false))) else (some false)) = some r := h
 clear h
 by_cases c3 : a0_0 = a1_0
 rotate_left
 ·rw [if_neg c3] at H
  have c3b0 : (a0_0 == a1_0) = false := beq_eq_false_iff_ne.mpr c3
  have c3b1 : (a0_0 != a1_0) = true := bne_iff_ne.mpr c3
  obtain rfl := Option.some.inj H
  go_enter Tryz.func15, Tryz.ntmps15
  go_wp2_with (first | ((with_reducible refine gate_dst (N := 2) rfl ?_); refine box_event ?hg (N := 2) ?hd (cs := #[.int .i64 a0_0, .slice A0_1 l0_1.length c0_1, .slice A0_2 l0_2.length c0_2]) (t := 31) ?hr ?_; (case hd => rfl); (case hg => rfl); (case hr => exact zq4); intro gb167 hg w17 hbox hb; have BK167 := Aside0.mk (hbox); have GW167 := Aside0.mk ((zq5 : w.heap.size ≤ gb167)); have GE167 := Aside0.mk ((zq5 : w.heap.size ≤ gb167)); replace HB := Aside0.mk (below_step (zW HB) hb); clear hb hbox hg) | ((with_reducible refine gate_dst (N := 3) rfl ?_); refine box_event ?hg (N := 3) ?hd (cs := #[.int .i64 a1_0, .slice A1_1 l1_1.length c1_1, .slice A1_2 l1_2.length c1_2]) (t := 31) ?hr ?_; (case hd => rfl); (case hg => rfl); (case hr => exact zq4); intro gb168 hg w18 hbox hb; have BK168 := Aside0.mk (hbox); have GW168 := Aside0.mk ((zq5 : w.heap.size ≤ gb168)); have GE168 := Aside0.mk ((zq5 : w.heap.size ≤ gb168)); replace HB := Aside0.mk (below_step (zW HB) hb); have NB167_168 := Aside0.mk ((zq53 : gb167 ≠ gb168)); have NB168_167 := Aside0.mk ((zq54 : gb168 ≠ gb167)); replace BK167 := Aside0.mk (blk_below (zB BK167) hb); clear hb hbox hg; have hnb19 := NB167_168.out; have hnc19 := NB168_167.out; have hcz20_0 : w18.cell? ⟨gb167, 0, none⟩ = some (.int .i64 a0_0) := (blk_cell BK167.out 0).trans rfl; have hcz20_1 : w18.cell? ⟨gb167, 1, none⟩ = some (.slice A0_1 l0_1.length c0_1) := (blk_cell BK167.out 1).trans rfl; have hcz20_2 : w18.cell? ⟨gb167, 2, none⟩ = some (.slice A0_2 l0_2.length c0_2) := (blk_cell BK167.out 2).trans rfl; have hfz20_0 := blk_frozen BK167.out 0; have hfz20_1 := blk_frozen BK167.out 1; have hfz20_2 := blk_frozen BK167.out 2; have hcz21_0 : w18.cell? ⟨gb168, 0, none⟩ = some (.int .i64 a1_0) := (blk_cell BK168.out 0).trans rfl; have hcz21_1 : w18.cell? ⟨gb168, 1, none⟩ = some (.slice A1_1 l1_1.length c1_1) := (blk_cell BK168.out 1).trans rfl; have hcz21_2 : w18.cell? ⟨gb168, 2, none⟩ = some (.slice A1_2 l1_2.length c1_2) := (blk_cell BK168.out 2).trans rfl; have hfz21_0 := blk_frozen BK168.out 0; have hfz21_1 := blk_frozen BK168.out 1; have hfz21_2 := blk_frozen BK168.out 2))
  go_ret
  exact ⟨zq6, zq55⟩
 rw [if_pos c3] at H
 have c3b0 : (a0_0 == a1_0) = true := beq_iff_eq.mpr c3
 have c3b1 : (a0_0 != a1_0) = false := bne_eq_false_iff_eq.mpr c3
 clear c3
 replace H := Option.bind_eq_some_iff.mp H
 obtain ⟨t169, A40, H⟩ := H
 try dsimp only at H
 have A4 := Aside0.mk A40
 clear A40
 by_cases c5 : t169 = true
 rotate_left
 ·replace c5 := Bool.eq_false_iff.mpr c5
  subst c5
  rw [if_neg (show ¬ (false = true) by decide)] at H
  obtain rfl := Option.some.inj H
  go_enter Tryz.func15, Tryz.ntmps15
  go_wp2_with (first | ((with_reducible refine gate_dst (N := 2) rfl ?_); refine box_event ?hg (N := 2) ?hd (cs := #[.int .i64 a0_0, .slice A0_1 l0_1.length c0_1, .slice A0_2 l0_2.length c0_2]) (t := 31) ?hr ?_; (case hd => rfl); (case hg => rfl); (case hr => exact zq4); intro gb167 hg w12 hbox hb; have BK167 := Aside0.mk (hbox); have GW167 := Aside0.mk ((zq5 : w.heap.size ≤ gb167)); have GE167 := Aside0.mk ((zq5 : w.heap.size ≤ gb167)); replace HB := Aside0.mk (below_step (zW HB) hb); clear hb hbox hg) | ((with_reducible refine gate_dst (N := 3) rfl ?_); refine box_event ?hg (N := 3) ?hd (cs := #[.int .i64 a1_0, .slice A1_1 l1_1.length c1_1, .slice A1_2 l1_2.length c1_2]) (t := 31) ?hr ?_; (case hd => rfl); (case hg => rfl); (case hr => exact zq4); intro gb168 hg w13 hbox hb; have BK168 := Aside0.mk (hbox); have GW168 := Aside0.mk ((zq5 : w.heap.size ≤ gb168)); have GE168 := Aside0.mk ((zq5 : w.heap.size ≤ gb168)); replace HB := Aside0.mk (below_step (zW HB) hb); have NB167_168 := Aside0.mk ((zq53 : gb167 ≠ gb168)); have NB168_167 := Aside0.mk ((zq54 : gb168 ≠ gb167)); replace BK167 := Aside0.mk (blk_below (zB BK167) hb); clear hb hbox hg; have hnb14 := NB167_168.out; have hnc14 := NB168_167.out; have hcz15_0 : w13.cell? ⟨gb167, 0, none⟩ = some (.int .i64 a0_0) := (blk_cell BK167.out 0).trans rfl; have hcz15_1 : w13.cell? ⟨gb167, 1, none⟩ = some (.slice A0_1 l0_1.length c0_1) := (blk_cell BK167.out 1).trans rfl; have hcz15_2 : w13.cell? ⟨gb167, 2, none⟩ = some (.slice A0_2 l0_2.length c0_2) := (blk_cell BK167.out 2).trans rfl; have hfz15_0 := blk_frozen BK167.out 0; have hfz15_1 := blk_frozen BK167.out 1; have hfz15_2 := blk_frozen BK167.out 2; have hcz16_0 : w13.cell? ⟨gb168, 0, none⟩ = some (.int .i64 a1_0) := (blk_cell BK168.out 0).trans rfl; have hcz16_1 : w13.cell? ⟨gb168, 1, none⟩ = some (.slice A1_1 l1_1.length c1_1) := (blk_cell BK168.out 1).trans rfl; have hcz16_2 : w13.cell? ⟨gb168, 2, none⟩ = some (.slice A1_2 l1_2.length c1_2) := (blk_cell BK168.out 2).trans rfl; have hfz16_0 := blk_frozen BK168.out 0; have hfz16_1 := blk_frozen BK168.out 1; have hfz16_2 := blk_frozen BK168.out 2) | (go_at_call 16; (with_reducible refine (dialtoneref22_Ints.calls k _ _ l0_1 _ _ l1_1 false _ ?side1 ?side2 ?side3 ?side4 A4.out).mono ?_); (case side1 => exact zC (Kd.C_below HR0_1.out HB.out)); (case side2 => exact HC0_1.out); (case side3 => exact zC (Kd.C_below HR1_1.out HB.out)); (case side4 => exact HC1_1.out); rintro e w' ⟨rfl, ⟨nd, rfl⟩⟩))
  go_ret
  exact ⟨zq6, zq55⟩
 subst c5
 rw [if_pos rfl] at H
 replace H := Option.bind_eq_some_iff.mp H
 obtain ⟨t170, A60, H⟩ := H
 try dsimp only at H
 have A6 := Aside0.mk A60
 clear A60
 obtain rfl := Option.some.inj H
 go_enter Tryz.func15, Tryz.ntmps15
 go_wp2_with (first | ((with_reducible refine gate_dst (N := 2) rfl ?_); refine box_event ?hg (N := 2) ?hd (cs := #[.int .i64 a0_0, .slice A0_1 l0_1.length c0_1, .slice A0_2 l0_2.length c0_2]) (t := 31) ?hr ?_; (case hd => rfl); (case hg => rfl); (case hr => exact zq4); intro gb167 hg w7 hbox hb; have BK167 := Aside0.mk (hbox); have GW167 := Aside0.mk ((zq5 : w.heap.size ≤ gb167)); have GE167 := Aside0.mk ((zq5 : w.heap.size ≤ gb167)); replace HB := Aside0.mk (below_step (zW HB) hb); clear hb hbox hg) | ((with_reducible refine gate_dst (N := 3) rfl ?_); refine box_event ?hg (N := 3) ?hd (cs := #[.int .i64 a1_0, .slice A1_1 l1_1.length c1_1, .slice A1_2 l1_2.length c1_2]) (t := 31) ?hr ?_; (case hd => rfl); (case hg => rfl); (case hr => exact zq4); intro gb168 hg w8 hbox hb; have BK168 := Aside0.mk (hbox); have GW168 := Aside0.mk ((zq5 : w.heap.size ≤ gb168)); have GE168 := Aside0.mk ((zq5 : w.heap.size ≤ gb168)); replace HB := Aside0.mk (below_step (zW HB) hb); have NB167_168 := Aside0.mk ((zq53 : gb167 ≠ gb168)); have NB168_167 := Aside0.mk ((zq54 : gb168 ≠ gb167)); replace BK167 := Aside0.mk (blk_below (zB BK167) hb); clear hb hbox hg; have hnb9 := NB167_168.out; have hnc9 := NB168_167.out; have hcz10_0 : w8.cell? ⟨gb167, 0, none⟩ = some (.int .i64 a0_0) := (blk_cell BK167.out 0).trans rfl; have hcz10_1 : w8.cell? ⟨gb167, 1, none⟩ = some (.slice A0_1 l0_1.length c0_1) := (blk_cell BK167.out 1).trans rfl; have hcz10_2 : w8.cell? ⟨gb167, 2, none⟩ = some (.slice A0_2 l0_2.length c0_2) := (blk_cell BK167.out 2).trans rfl; have hfz10_0 := blk_frozen BK167.out 0; have hfz10_1 := blk_frozen BK167.out 1; have hfz10_2 := blk_frozen BK167.out 2; have hcz11_0 : w8.cell? ⟨gb168, 0, none⟩ = some (.int .i64 a1_0) := (blk_cell BK168.out 0).trans rfl; have hcz11_1 : w8.cell? ⟨gb168, 1, none⟩ = some (.slice A1_1 l1_1.length c1_1) := (blk_cell BK168.out 1).trans rfl; have hcz11_2 : w8.cell? ⟨gb168, 2, none⟩ = some (.slice A1_2 l1_2.length c1_2) := (blk_cell BK168.out 2).trans rfl; have hfz11_0 := blk_frozen BK168.out 0; have hfz11_1 := blk_frozen BK168.out 1; have hfz11_2 := blk_frozen BK168.out 2) | (go_at_call 16; (with_reducible refine (dialtoneref22_Ints.calls k _ _ l0_1 _ _ l1_1 true _ ?side1 ?side2 ?side3 ?side4 A4.out).mono ?_); (case side1 => exact zC (Kd.C_below HR0_1.out HB.out)); (case side2 => exact HC0_1.out); (case side3 => exact zC (Kd.C_below HR1_1.out HB.out)); (case side4 => exact HC1_1.out); rintro e w' ⟨rfl, ⟨nd, rfl⟩⟩) | (go_at_call 16; (with_reducible refine (dialtoneref22_Ints.calls k _ _ l0_2 _ _ l1_2 t170 _ ?side1 ?side2 ?side3 ?side4 A6.out).mono ?_); (case side1 => repeat (first | exact (Kd.C_below HR0_2.out (zW HB)) | (with_reducible refine Kd.C_alloc ?_ _) | (with_reducible refine Kd.C_drewN ?_ _) | (with_reducible refine Kd.C_drew ?_))); (case side2 => exact HC0_2.out); (case side3 => repeat (first | exact (Kd.C_below HR1_2.out (zW HB)) | (with_reducible refine Kd.C_alloc ?_ _) | (with_reducible refine Kd.C_drewN ?_ _) | (with_reducible refine Kd.C_drew ?_))); (case side4 => exact HC1_2.out); rintro e w' ⟨rfl, ⟨nd, rfl⟩⟩))
 go_ret
 exact ⟨zq6, zq55⟩
def dialtonelaw22_ends.f (k : Nat) (l0 : List (S37)) (a1 : Int) (a2 : Int) (l3 : List Int) (l4 : List Int) : Option (Bool) := (dialtonelaw22_settings.f).bind fun t172 => ((forward_Resolve.f t172 l0 10 a1).bind fun bt175 => (if bt175.2.2.2 = 0 then ((dialtoneref22_Same.f k bt175.1 bt175.2.1 bt175.2.2.1 a2 l3 l4).bind fun t184 => (if t184 = true then ((dialtonelaw22_settings.f).bind fun t185 => ((forward_Check.f k t185 l0 10 a1 a2 l3 l4).bind fun t188 => (some t188))) else (none))) else (none)))
theorem dialtonelaw22_ends.mono : ∀ a0 a1 a2 a3 a4 k, LeO (dialtonelaw22_ends.f k a0 a1 a2 a3 a4) (dialtonelaw22_ends.f (k + 1) a0 a1 a2 a3 a4) := by
 intro a0 a1 a2 a3 a4 k
 unfold dialtonelaw22_ends.f
 repeat' first
  | (with_reducible exact dialtoneref22_Same.mono _ _ _ _ _ _ _)
  | (with_reducible exact forward_Check.mono _ _ _ _ _ _ _ _)
  | (with_reducible exact LeO.refl _)
  | (with_reducible exact LeO.none _)
  | (with_reducible refine LeO.ite ?_ ?_)
  | (with_reducible refine LeO.bind ?_ (fun _ => ?_))
  | exact dialtoneref22_Same.mono _ _ _ _ _ _ _
  | exact forward_Check.mono _ _ _ _ _ _ _ _
  | exact LeO.none _
  | refine LeO.ite ?_ ?_
  | refine LeO.bind ?_ (fun _ => ?_)
def dialtonelaw22_ends.T3 : Bool × List (List Nat × List Nat) := (true, [([], []), ([0], [0]), ([1], [1]), ([2], [2]), ([2], [2]), ([3, 4, 2, 2], [2, 3, 4]), ([2, 5], [2, 5]), ([6, 5], [6]), ([7, 7], [7]), ([7], [7]), ([7], [7]), ([7], [7]), ([8, 9, 10, 11, 8, 7], [7, 8, 9, 10, 11]), ([7, 12], [7, 12]), ([13, 12, 0, 1, 2, 3, 4, 5, 6, 7, 8, 9, 10, 11, 12, 13], [13])])
def dialtonelaw22_ends.B3 : List Nat := [0, 1, 3, 7, 7, 31, 63, 127, 255, 255, 255, 255, 4095, 8191, 16383]
theorem dialtonelaw22_ends.tab3 : rtab .any (opsOf Tryz.f23 3) = dialtonelaw22_ends.T3 := by kernel_rfl
theorem dialtonelaw22_ends.bits3 : waitsOk dialtonelaw22_ends.T3.2 dialtonelaw22_ends.B3 = true := by kernel_rfl
set_option maxHeartbeats 8000000 in
set_option maxRecDepth 100000 in
theorem dialtonelaw22_ends.calls (k : Nat) (A0 : Option Addr) (c0 : Nat) (l0 : List (S37)) (a1 : Int) (a2 : Int) (A3 : Option Addr) (c3 : Nat) (l3 : List Int) (A4 : Option Addr) (c4 : Nat) (l4 : List Int) (r : Bool) (w : World) (hr0 : Kd.C k37 w A0 l0.length l0) (hc0 : l0.length ≤ c0) (hr3 : Kd.C (Kd.int .i64) w A3 l3.length l3) (hc3 : l3.length ≤ c3) (hr4 : Kd.C (Kd.int .i64) w A4 l4.length l4) (hc4 : l4.length ≤ c4) (h : dialtonelaw22_ends.f k l0 a1 a2 l3 l4 = some r) :
 Calls Tryz.prog 23 #[.slice A0 l0.length c0, .int .i64 a1, .int .i64 a2, .slice A3 l3.length c3, .slice A4 l4.length c4] w fun e w' => e = .returned (.bool r) ∧ Below w.heap.size w w' := by
 have hu31 := Tryz.underlying31
 have HR0 := Aside0.mk hr0
 have HC0 := Aside0.mk hc0
 clear hr0 hc0
 have HR3 := Aside0.mk hr3
 have HC3 := Aside0.mk hc3
 clear hr3 hc3
 have HR4 := Aside0.mk hr4
 have HC4 := Aside0.mk hc4
 clear hr4 hc4
 have HB := Aside0.mk (Below.refl w.heap.size w)
 have H : ((dialtonelaw22_settings.f).bind fun t172 => ((forward_Resolve.f t172 l0 10 a1).bind fun bt175 => (if bt175.2.2.2 = 0 then ((dialtoneref22_Same.f k bt175.1 bt175.2.1 bt175.2.2.1 a2 l3 l4).bind fun t184 => (if t184 = true then ((dialtonelaw22_settings.f).bind fun t185 => ((forward_Check.f k t185 l0 10 a1 a2 l3 l4).bind fun t188 => (some t188))) else (none))) else (none)))) = some r := h
 clear h
 replace H := Option.bind_eq_some_iff.mp H
 obtain ⟨t172, A60, H⟩ := H
 try dsimp only at H
 have A6 := Aside0.mk A60
 clear A60
 replace H := Option.bind_eq_some_iff.mp H
 obtain ⟨⟨t175, t176, t179, t182⟩, A70, H⟩ := H
 try dsimp only at H
 have A7 := Aside0.mk A70
 clear A70
 by_cases c8 : t182 = 0
 rotate_left
 ·rw [if_neg c8] at H
  exact absurd H (by simp)
 rw [if_pos c8] at H
 have c8b0 : (t182 == 0) = true := beq_iff_eq.mpr c8
 have c8b1 : (t182 != 0) = false := bne_eq_false_iff_eq.mpr c8
 clear c8
 replace H := Option.bind_eq_some_iff.mp H
 obtain ⟨t184, A90, H⟩ := H
 try dsimp only at H
 have A9 := Aside0.mk A90
 clear A90
 by_cases c10 : t184 = true
 rotate_left
 ·replace c10 := Bool.eq_false_iff.mpr c10
  subst c10
  rw [if_neg (show ¬ (false = true) by decide)] at H
  exact absurd H (by simp)
 subst c10
 rw [if_pos rfl] at H
 replace H := Option.bind_eq_some_iff.mp H
 obtain ⟨t185, A110, H⟩ := H
 try dsimp only at H
 have A11 := Aside0.mk A110
 clear A110
 replace H := Option.bind_eq_some_iff.mp H
 obtain ⟨t188, A120, H⟩ := H
 try dsimp only at H
 have A12 := Aside0.mk A120
 clear A120
 obtain rfl := Option.some.inj H
 go_enter Tryz.func23, Tryz.ntmps23
 try go_wp2_with (first | ((with_reducible refine gate_dst (N := 11) rfl ?_); refine box_event ?hg (N := 11) ?hd (cs := #[.int .i64 0, .slice none 0 0, .slice none 0 0]) (t := 31) ?hr ?_; (case hd => rfl); (case hg => rfl); (case hr => exact zq4); intro gb171 hg w13 hbox hb; have BK171 := Aside0.mk (hbox); have GW171 := Aside0.mk ((zq5 : w.heap.size ≤ gb171)); have GE171 := Aside0.mk ((zq5 : w.heap.size ≤ gb171)); replace HB := Aside0.mk (below_step (zW HB) hb); clear hb hbox hg; have hcz14_0 : w13.cell? ⟨gb171, 0, none⟩ = some (.int .i64 0) := (blk_cell BK171.out 0).trans rfl; have hcz14_1 : w13.cell? ⟨gb171, 1, none⟩ = some (.slice none 0 0) := (blk_cell BK171.out 1).trans rfl; have hcz14_2 : w13.cell? ⟨gb171, 2, none⟩ = some (.slice none 0 0) := (blk_cell BK171.out 2).trans rfl; have hfz14_0 := blk_frozen BK171.out 0; have hfz14_1 := blk_frozen BK171.out 1; have hfz14_2 := blk_frozen BK171.out 2) | ((with_reducible refine gate_callee (f := 20) rfl ?_); refine goesL_ (some 19) rfl rfl Tryz.func20 (by kernel_rfl) rfl #[] rfl zG ?_; (with_reducible refine (dialtonelaw22_settings.calls  t172 _ A6.out).mono ?_); rintro e w15 ⟨v173, rfl, ho0, hb⟩; refine ⟨_, rfl, ?_⟩; have HO174 := Aside0.mk (Kd.R_lower ho0 (below_size (zW HB))); replace BK171 := Aside0.mk (blk_below (g := gb171) (o := .cells #[.int .i64 a2, .slice A3 l3.length c3, .slice A4 l4.length c4] 31 (0, 0)) (by (with_reducible repeat (first | refine blk_drewN ?_ _ | refine blk_drew ?_ | refine blk_alloc ?_ _)); refine blk_put (cs := #[.int .i64 a2, .slice A3 l3.length c3, .slice none 0 0]) ?_ 2 _ rfl; (with_reducible repeat (first | refine blk_drewN ?_ _ | refine blk_drew ?_ | refine blk_alloc ?_ _)); refine blk_put (cs := #[.int .i64 a2, .slice none 0 0, .slice none 0 0]) ?_ 1 _ rfl; (with_reducible repeat (first | refine blk_drewN ?_ _ | refine blk_drew ?_ | refine blk_alloc ?_ _)); refine blk_put (cs := #[.int .i64 0, .slice none 0 0, .slice none 0 0]) ?_ 0 _ rfl; (with_reducible repeat (first | refine blk_drewN ?_ _ | refine blk_drew ?_ | refine blk_alloc ?_ _)); exact BK171.out) hb); replace HB := Aside0.mk (below_step (zW HB) hb); (try clear hb); (try clear hb2); (try clear hk); (try clear hi); (try clear ho0); obtain ⟨Ao16, co16, eo16⟩ := Kd.R_slice HO174.out; subst eo16) | ((with_reducible refine gate_callee (f := 11) rfl ?_); refine goesL_ (some 22) rfl rfl Tryz.func11 (by kernel_rfl) rfl #[.slice Ao16 t172.length co16, .slice A0 l0.length c0, .int .i64 10, .int .i64 a1] rfl zG ?_; (with_reducible refine (forward_Resolve.calls _ _ t172 _ _ l0 10 a1 t175 t176 t179 t182 _ ?side1 ?side2 ?side3 ?side4 A7.out).mono ?_); (case side1 => exact zC (Kd.R_reads' HO174.out).2.2); (case side2 => exact (Kd.R_reads' HO174.out).2.1); (case side3 => exact zq11); (case side4 => exact zq12); rintro e w17 ⟨v177, v180, rfl, ho0, ho1, hb⟩; refine ⟨_, rfl, ?_⟩; replace HO174 := Aside0.mk (Kd.R_below (zR HO174) hb); have HO178 := Aside0.mk (Kd.R_lower ho0 (below_size (zW HB))); have HO181 := Aside0.mk (Kd.R_lower ho1 (below_size (zW HB))); replace BK171 := Aside0.mk (blk_below (zB BK171) hb); replace HB := Aside0.mk (below_step (zW HB) hb); (try clear hb); (try clear hb2); (try clear hk); (try clear hi); (try clear ho0); (try clear ho1)) | ((with_reducible refine gate_dst (N := 12) rfl ?_); refine box_event ?hg (N := 12) ?hd (cs := #[.int .i64 0, .slice none 0 0, .slice none 0 0]) (t := 31) ?hr ?_; (case hd => rfl); (case hg => rfl); (case hr => exact zq4); intro gb183 hg w18 hbox hb; replace HO174 := Aside0.mk (Kd.R_below (zR HO174) hb); replace HO178 := Aside0.mk (Kd.R_below (zR HO178) hb); replace HO181 := Aside0.mk (Kd.R_below (zR HO181) hb); have BK183 := Aside0.mk (hbox); have GW183 := Aside0.mk ((zq5 : w.heap.size ≤ gb183)); have GE183 := Aside0.mk ((zq5 : w.heap.size ≤ gb183)); replace HB := Aside0.mk (below_step (zW HB) hb); have NB171_183 := Aside0.mk ((by rw [hg]; exact Nat.ne_of_lt (blk_lt (zB BK171)) : gb171 ≠ gb183)); have NB183_171 := Aside0.mk ((by rw [hg]; exact Nat.ne_of_gt (blk_lt (zB BK171)) : gb183 ≠ gb171)); replace BK171 := Aside0.mk (blk_below (zB BK171) hb); clear hb hbox hg; have hnb19 := NB183_171.out; have hnc19 := NB171_183.out; have hcz20_0 : w18.cell? ⟨gb183, 0, none⟩ = some (.int .i64 0) := (blk_cell BK183.out 0).trans rfl; have hcz20_1 : w18.cell? ⟨gb183, 1, none⟩ = some (.slice none 0 0) := (blk_cell BK183.out 1).trans rfl; have hcz20_2 : w18.cell? ⟨gb183, 2, none⟩ = some (.slice none 0 0) := (blk_cell BK183.out 2).trans rfl; have hfz20_0 := blk_frozen BK183.out 0; have hfz20_1 := blk_frozen BK183.out 1; have hfz20_2 := blk_frozen BK183.out 2; obtain ⟨Ao21, co21, eo21⟩ := Kd.R_slice HO178.out; subst eo21; obtain ⟨Ao22, co22, eo22⟩ := Kd.R_slice HO181.out; subst eo22))
 have n0_ : Aside0 (Kd.R k41 41 (((w18.setCell ⟨gb183, 0, none⟩ (.int .i64 t175)).setCell ⟨gb183, 1, none⟩ (.slice Ao21 t176.length co21)).setCell ⟨gb183, 2, none⟩ (.slice Ao22 t179.length co22)) w.heap.size (fun _ => True) (.slice Ao16 t172.length co16) t172) := ⟨by (with_reducible repeat (first | apply Kd.R_alloc | apply Kd.R_drewN | apply Kd.R_drew)); exact Kd.R_mono (Kd.R_far (p := ⟨gb183, 2, none⟩) (Kd.R_far (p := ⟨gb183, 1, none⟩) (Kd.R_far (p := ⟨gb183, 0, none⟩) (Kd.R_types HO174.out BK183.out (by decide)) (fun _ hk => hk.2) (.int .i64 t175)) (fun _ hk => hk.2) (.slice Ao21 t176.length co21)) (fun _ hk => hk.2) (.slice Ao22 t179.length co22)) (fun _ hk => trivial)⟩
 have n1_ : Aside0 (Kd.R (Kd.int .i64) 3 (((w18.setCell ⟨gb183, 0, none⟩ (.int .i64 t175)).setCell ⟨gb183, 1, none⟩ (.slice Ao21 t176.length co21)).setCell ⟨gb183, 2, none⟩ (.slice Ao22 t179.length co22)) w.heap.size (fun k_ => some k_ ≠ (.slice Ao22 t179.length co22 : Value).ownBlock) (.slice Ao21 t176.length co21) t176) := ⟨by (with_reducible repeat (first | apply Kd.R_alloc | apply Kd.R_drewN | apply Kd.R_drew)); exact Kd.R_mono (Kd.R_far (p := ⟨gb183, 2, none⟩) (Kd.R_far (p := ⟨gb183, 1, none⟩) (Kd.R_far (p := ⟨gb183, 0, none⟩) (Kd.R_types HO178.out BK183.out (by decide)) (fun _ hk => hk.2) (.int .i64 t175)) (fun _ hk => hk.2) (.slice Ao21 t176.length co21)) (fun _ hk => hk.2) (.slice Ao22 t179.length co22)) (fun _ hk => hk.1)⟩
 have n2_ : Aside0 (Kd.R (Kd.int .i64) 3 (((w18.setCell ⟨gb183, 0, none⟩ (.int .i64 t175)).setCell ⟨gb183, 1, none⟩ (.slice Ao21 t176.length co21)).setCell ⟨gb183, 2, none⟩ (.slice Ao22 t179.length co22)) w.heap.size (fun k_ => some k_ ≠ (.slice Ao21 t176.length co21 : Value).ownBlock) (.slice Ao22 t179.length co22) t179) := ⟨by (with_reducible repeat (first | apply Kd.R_alloc | apply Kd.R_drewN | apply Kd.R_drew)); exact Kd.R_mono (Kd.R_far (p := ⟨gb183, 2, none⟩) (Kd.R_far (p := ⟨gb183, 1, none⟩) (Kd.R_far (p := ⟨gb183, 0, none⟩) (Kd.R_types HO181.out BK183.out (by decide)) (fun _ hk => hk.2) (.int .i64 t175)) (fun _ hk => hk.2) (.slice Ao21 t176.length co21)) (fun _ hk => hk.2) (.slice Ao22 t179.length co22)) (fun _ hk => hk.1)⟩
 have n3_ : Aside0 ((((w18.setCell ⟨gb183, 0, none⟩ (.int .i64 t175)).setCell ⟨gb183, 1, none⟩ (.slice Ao21 t176.length co21)).setCell ⟨gb183, 2, none⟩ (.slice Ao22 t179.length co22)).heap[gb171]? = some (.cells #[.int .i64 a2, .slice A3 l3.length c3, .slice A4 l4.length c4] 31 (0, 0))) := ⟨by (with_reducible repeat (first | refine blk_drewN ?_ _ | refine blk_drew ?_ | refine blk_alloc ?_ _)); refine blk_far ?_ NB171_183.out _; (with_reducible repeat (first | refine blk_drewN ?_ _ | refine blk_drew ?_ | refine blk_alloc ?_ _)); refine blk_far ?_ NB171_183.out _; (with_reducible repeat (first | refine blk_drewN ?_ _ | refine blk_drew ?_ | refine blk_alloc ?_ _)); refine blk_far ?_ NB171_183.out _; (with_reducible repeat (first | refine blk_drewN ?_ _ | refine blk_drew ?_ | refine blk_alloc ?_ _)); exact BK171.out⟩
 have n4_ : Aside0 ((((w18.setCell ⟨gb183, 0, none⟩ (.int .i64 t175)).setCell ⟨gb183, 1, none⟩ (.slice Ao21 t176.length co21)).setCell ⟨gb183, 2, none⟩ (.slice Ao22 t179.length co22)).heap[gb183]? = some (.cells #[.int .i64 t175, .slice Ao21 t176.length co21, .slice Ao22 t179.length co22] 31 (0, 0))) := ⟨by (with_reducible repeat (first | refine blk_drewN ?_ _ | refine blk_drew ?_ | refine blk_alloc ?_ _)); refine blk_put (cs := #[.int .i64 t175, .slice Ao21 t176.length co21, .slice none 0 0]) ?_ 2 _ rfl; (with_reducible repeat (first | refine blk_drewN ?_ _ | refine blk_drew ?_ | refine blk_alloc ?_ _)); refine blk_put (cs := #[.int .i64 t175, .slice none 0 0, .slice none 0 0]) ?_ 1 _ rfl; (with_reducible repeat (first | refine blk_drewN ?_ _ | refine blk_drew ?_ | refine blk_alloc ?_ _)); refine blk_put (cs := #[.int .i64 0, .slice none 0 0, .slice none 0 0]) ?_ 0 _ rfl; (with_reducible repeat (first | refine blk_drewN ?_ _ | refine blk_drew ?_ | refine blk_alloc ?_ _)); exact BK183.out⟩
 have n5_ : Aside0 (Below w.heap.size w (((w18.setCell ⟨gb183, 0, none⟩ (.int .i64 t175)).setCell ⟨gb183, 1, none⟩ (.slice Ao21 t176.length co21)).setCell ⟨gb183, 2, none⟩ (.slice Ao22 t179.length co22))) := ⟨zq56⟩
 (try clear HO174)
 (try clear HO178)
 (try clear HO181)
 (try clear BK171)
 (try clear BK183)
 (try clear HB)
 generalize (((w18.setCell ⟨gb183, 0, none⟩ (.int .i64 t175)).setCell ⟨gb183, 1, none⟩ (.slice Ao21 t176.length co21)).setCell ⟨gb183, 2, none⟩ (.slice Ao22 t179.length co22)) = w23 at n0_ n1_ n2_ n3_ n4_ n5_ ⊢
 have HO174 := n0_
 have HO178 := n1_
 have HO181 := n2_
 have BK171 := n3_
 have BK183 := n4_
 have HB := n5_
 clear n0_ n1_ n2_ n3_ n4_ n5_
 replace HO174 := Aside0.mk (Kd.R_drew HO174.out)
 replace HO178 := Aside0.mk (Kd.R_drew HO178.out)
 replace HO181 := Aside0.mk (Kd.R_drew HO181.out)
 replace BK171 := Aside0.mk (blk_drew BK171.out)
 replace BK183 := Aside0.mk (blk_drew BK183.out)
 replace HB := Aside0.mk (below_drew1 HB.out)
 refine start_ (n := 15) (S := fun w' => w'.cell? ⟨gb183, 0, none⟩ = some (.int .i64 t175) ∧ w'.cell? ⟨gb183, 1, none⟩ = some (.slice Ao21 t176.length co21) ∧ w'.cell? ⟨gb183, 2, none⟩ = some (.slice Ao22 t179.length co22) ∧ w'.cell? ⟨gb171, 0, none⟩ = some (.int .i64 a2) ∧ w'.cell? ⟨gb171, 1, none⟩ = some (.slice A3 l3.length c3) ∧ w'.cell? ⟨gb171, 2, none⟩ = some (.slice A4 l4.length c4)) (ds := []) (bm 15 0) (by kernel_rfl) rfl rfl ⟨(blk_cell BK183.out 0).trans rfl, (blk_cell BK183.out 1).trans rfl, (blk_cell BK183.out 2).trans rfl, (blk_cell BK171.out 0).trans rfl, (blk_cell BK171.out 1).trans rfl, (blk_cell BK171.out 2).trans rfl⟩ (fun hHeld => ?_); refine with_tabW dialtonelaw22_ends.tab3 dialtonelaw22_ends.bits3 (fun HT_ HW_ => ?_)
 generalize w23.drew = w24 at HO174 HO178 HO181 BK171 BK183 HB hHeld ⊢
 refine pz 0 (some 25) (bm 15 1) HT_ ?_
 refine pz 1 (some 26) (bm 15 3) HT_ ?_
 refine pz 2 (some 27) (bm 15 7) HT_ ?_
 refine tz 3 (some 28) (bm 15 15) HT_ HW_ hHeld ?_
 refine tz 4 (some 29) (bm 15 31) HT_ HW_ hHeld ?_
 refine one_ (i := 5) (N := some 30) (bm 15 63) rfl rfl (one_of HT_.out (by kernel_rfl)) (by decide) (fun K hK => ?_)
 refine goes_ Tryz.func15 (by kernel_rfl) rfl #[.agg #[.int .i64 t175, .slice Ao21 t176.length co21, .slice Ao22 t179.length co22], .agg #[.int .i64 a2, .slice A3 l3.length c3, .slice A4 l4.length c4]] (by rfl) rfl rfl zG ?_
 with_reducible refine (dialtoneref22_Same.calls k t175 _ _ t176 _ _ t179 a2 _ _ l3 _ _ l4 true _ ?side1 ?side2 ?side3 ?side4 ?side5 ?side6 ?side7 ?side8 A9.out).mono ?_
 (case side1 => exact zC (Kd.R_reads' HO178.out).2.2)
 (case side2 => exact (Kd.R_reads' HO178.out).2.1)
 (case side3 => exact zC (Kd.R_reads' HO181.out).2.2)
 (case side4 => exact (Kd.R_reads' HO181.out).2.1)
 (case side5 => exact zC (Kd.C_below HR3.out HB.out))
 (case side6 => exact HC3.out)
 (case side7 => exact zC (Kd.C_below HR4.out HB.out))
 (case side8 => exact HC4.out)
 rintro e w25 ⟨rfl, hb⟩
 refine ⟨_, rfl, ?_⟩
 replace HO174 := Aside0.mk (Kd.R_below (zR HO174) hb)
 replace HO178 := Aside0.mk (Kd.R_below (zR HO178) hb)
 replace HO181 := Aside0.mk (Kd.R_below (zR HO181) hb)
 replace BK171 := Aside0.mk (blk_below (zB BK171) hb)
 replace BK183 := Aside0.mk (blk_below (zB BK183) hb)
 replace HB := Aside0.mk (below_step (zW HB) hb)
 (try clear hb)
 (try clear hb2)
 (try clear hk)
 (try clear hi)
 refine hK.out _ _ ⟨(blk_cell BK183.out 0).trans rfl, (blk_cell BK183.out 1).trans rfl, (blk_cell BK183.out 2).trans rfl, (blk_cell BK171.out 0).trans rfl, (blk_cell BK171.out 1).trans rfl, (blk_cell BK171.out 2).trans rfl⟩ (fun hHeld => ?_)
 clear hK K
 refine nz (some 30) ?_
 refine pz 6 (some 31) (bm 15 127) HT_ ?_
 refine pz 7 (some 32) (bm 15 255) HT_ ?_
 refine pz 9 (some 34) (bm 15 767) HT_ ?_
 refine pz 10 (some 35) (bm 15 1791) HT_ ?_
 refine tz 11 (some 36) (bm 15 3839) HT_ HW_ hHeld ?_
 refine one_ (i := 8) (N := some 33) (bm 15 4095) rfl rfl (one_of HT_.out (by kernel_rfl)) (by decide) (fun K hK => ?_)
 refine goes_ Tryz.func20 (by kernel_rfl) rfl #[] (by rfl) rfl rfl zG ?_
 with_reducible refine (dialtonelaw22_settings.calls  t185 _ A11.out).mono ?_
 rintro e w26 ⟨v186, rfl, ho0, hb⟩
 refine ⟨_, rfl, ?_⟩
 replace HO178 := Aside0.mk (Kd.R_below (zR HO178) hb)
 replace HO181 := Aside0.mk (Kd.R_below (zR HO181) hb)
 have HO187 := Aside0.mk (Kd.R_lower (Kd.R_new' ho0 (Kd.R_lt (zR HO174))) (below_size (zW HB)))
 replace HO174 := Aside0.mk (Kd.R_elder' (zR HO174) (Kd.R_base ho0) hb)
 replace BK171 := Aside0.mk (blk_below (zB BK171) hb)
 replace BK183 := Aside0.mk (blk_below (zB BK183) hb)
 replace HB := Aside0.mk (below_step (zW HB) hb)
 (try clear hb)
 (try clear hb2)
 (try clear hk)
 (try clear hi)
 (try clear ho0)
 obtain ⟨Ao27, co27, eo27⟩ := Kd.R_slice HO187.out
 (first | subst eo27 | (injection eo27 with f1_ f2_ f3_; have f4_ := f1_.symm; have f5_ := f3_.symm; clear f1_ f2_ f3_; subst f4_; subst f5_))
 refine hK.out _ _ ⟨(blk_cell BK183.out 0).trans rfl, (blk_cell BK183.out 1).trans rfl, (blk_cell BK183.out 2).trans rfl, (blk_cell BK171.out 0).trans rfl, (blk_cell BK171.out 1).trans rfl, (blk_cell BK171.out 2).trans rfl⟩ (fun hHeld => ?_)
 clear hK K
 refine nz (some 33) ?_
 refine one_ (i := 12) (N := some 37) (bm 15 8191) rfl rfl (one_of HT_.out (by kernel_rfl)) (by decide) (fun K hK => ?_)
 refine goes_ Tryz.func12 (by kernel_rfl) rfl #[.slice Ao27 t185.length co27, .slice A0 l0.length c0, .int .i64 10, .int .i64 a1, .agg #[.int .i64 a2, .slice A3 l3.length c3, .slice A4 l4.length c4]] (by rfl) rfl rfl zG ?_
 with_reducible refine (forward_Check.calls k _ _ t185 _ _ l0 10 a1 a2 _ _ l3 _ _ l4 t188 _ ?side1 ?side2 ?side3 ?side4 ?side5 ?side6 ?side7 ?side8 A12.out).mono ?_
 (case side1 => exact zC (Kd.R_reads' HO187.out).2.2)
 (case side2 => exact (Kd.R_reads' HO187.out).2.1)
 (case side3 => exact zq11)
 (case side4 => exact zq12)
 (case side5 => exact zC (Kd.C_below HR3.out HB.out))
 (case side6 => exact HC3.out)
 (case side7 => exact zC (Kd.C_below HR4.out HB.out))
 (case side8 => exact HC4.out)
 rintro e w28 ⟨rfl, hb⟩
 refine ⟨_, rfl, ?_⟩
 replace HO174 := Aside0.mk (Kd.R_below (zR HO174) hb)
 replace HO178 := Aside0.mk (Kd.R_below (zR HO178) hb)
 replace HO181 := Aside0.mk (Kd.R_below (zR HO181) hb)
 replace HO187 := Aside0.mk (Kd.R_below (zR HO187) hb)
 replace BK171 := Aside0.mk (blk_below (zB BK171) hb)
 replace BK183 := Aside0.mk (blk_below (zB BK183) hb)
 replace HB := Aside0.mk (below_step (zW HB) hb)
 (try clear hb)
 (try clear hb2)
 (try clear hk)
 (try clear hi)
 refine hK.out _ _ ⟨(blk_cell BK183.out 0).trans rfl, (blk_cell BK183.out 1).trans rfl, (blk_cell BK183.out 2).trans rfl, (blk_cell BK171.out 0).trans rfl, (blk_cell BK171.out 1).trans rfl, (blk_cell BK171.out 2).trans rfl⟩ (fun hHeld => ?_)
 clear hK K
 refine nz (some 37) ?_
 refine pz 13 (some 38) (bm 15 16383) HT_ ?_
 refine pz 14 (some 10) (bm 15 32767) HT_ ?_
 refine done_ (done_of HT_.out (by kernel_rfl)) ?_
 try go_wp2
 go_ret
 exact ⟨zq6, zq56⟩
def dialtoneref22_SameLoops.l0 : Nat → List (List Int) → List (List Int) → Int → Option (Bool)
 | 0, _, _, _ => none
 | k + 1, x0, x1, x5 => if x5 < (x0.length : Int) then (if 0 ≤ x5 then (if x5 < (x1.length : Int) then ((dialtoneref22_Ints.f k (rd_L6 x0 x5) (rd_L6 x1 x5)).bind fun t191 => (if t191 = true then (dialtoneref22_SameLoops.l0 k x0 x1 (wrap64 (x5 + 1))) else (some false))) else (none)) else (none)) else (some true)
def dialtoneref22_SameLoops.f (k : Nat) (l0 : List (List Int)) (l1 : List (List Int)) : Option (Bool) := if (l0.length : Int) = (l1.length : Int) then (dialtoneref22_SameLoops.l0 k l0 l1 0) else (some false)
theorem dialtoneref22_SameLoops.mono_l : ∀ k, (∀ y0 y1 y2, LeO (dialtoneref22_SameLoops.l0 k y0 y1 y2) (dialtoneref22_SameLoops.l0 (k + 1) y0 y1 y2))
 | 0 => fun _ _ _ r h => by simp [dialtoneref22_SameLoops.l0] at h
 | k + 1 => by
  have ih0 := dialtoneref22_SameLoops.mono_l k
  ·intro y0 y1 y2
   unfold dialtoneref22_SameLoops.l0
   repeat' first
   | (with_reducible exact ih0 _ _ _)
   | (with_reducible exact dialtoneref22_Ints.mono _ _ _)
   | (with_reducible exact LeO.refl _)
   | (with_reducible exact LeO.none _)
   | (with_reducible refine LeO.ite ?_ ?_)
   | (with_reducible refine LeO.bind ?_ (fun _ => ?_))
   | exact ih0 _ _ _
   | exact dialtoneref22_Ints.mono _ _ _
   | exact LeO.none _
   | refine LeO.ite ?_ ?_
   | refine LeO.bind ?_ (fun _ => ?_)
theorem dialtoneref22_SameLoops.mono : ∀ a0 a1 k, LeO (dialtoneref22_SameLoops.f k a0 a1) (dialtoneref22_SameLoops.f (k + 1) a0 a1) := by
 intro a0 a1 k
 have ih0 := dialtoneref22_SameLoops.mono_l k
 unfold dialtoneref22_SameLoops.f
 repeat' first
  | (with_reducible exact ih0 _ _ _)
  | (with_reducible exact dialtoneref22_Ints.mono _ _ _)
  | (with_reducible exact LeO.refl _)
  | (with_reducible exact LeO.none _)
  | (with_reducible refine LeO.ite ?_ ?_)
  | (with_reducible refine LeO.bind ?_ (fun _ => ?_))
  | exact ih0 _ _ _
  | exact dialtoneref22_Ints.mono _ _ _
  | exact LeO.none _
  | refine LeO.ite ?_ ?_
  | refine LeO.bind ?_ (fun _ => ?_)
set_option maxHeartbeats 8000000 in
set_option maxRecDepth 100000 in
theorem dialtoneref22_SameLoops.calls (k : Nat) (A0 : Option Addr) (c0 : Nat) (l0 : List (List Int)) (A1 : Option Addr) (c1 : Nat) (l1 : List (List Int)) (r : Bool) (w : World) (hr0 : Kd.C (Kd.slice 3 (Kd.int .i64)) w A0 l0.length l0) (hc0 : l0.length ≤ c0) (hr1 : Kd.C (Kd.slice 3 (Kd.int .i64)) w A1 l1.length l1) (hc1 : l1.length ≤ c1) (h : dialtoneref22_SameLoops.f k l0 l1 = some r) :
 Calls Tryz.prog 24 #[.slice A0 l0.length c0, .slice A1 l1.length c1] w fun e w' => e = .returned (.bool r) ∧ Drawn0 w w' := by
 have HR0 := Aside0.mk hr0
 have HC0 := Aside0.mk hc0
 clear hr0 hc0
 have HR1 := Aside0.mk hr1
 have HC1 := Aside0.mk hc1
 clear hr1 hc1
 have H : (if (l0.length : Int) = (l1.length : Int) then (dialtoneref22_SameLoops.l0 k l0 l1 0) else (some false)) = some r := h
 clear h
 by_cases c3 : (l0.length : Int) = (l1.length : Int)
 rotate_left
 ·rw [if_neg c3] at H
  have c3b0 : ((l0.length : Int) == (l1.length : Int)) = false := beq_eq_false_iff_ne.mpr c3
  have c3b1 : ((l0.length : Int) != (l1.length : Int)) = true := bne_iff_ne.mpr c3
  have c3b2 : (l0.length == l1.length) = false := by first | simpa using c3 | (simp at c3 ⊢; omega)
  obtain rfl := Option.some.inj H
  go_enter Tryz.func24, Tryz.ntmps24
  go_wp2
  repeat (go_quiet (fail); try go_wp2)
  go_ret
  exact ⟨zq2, zq3⟩
 rw [if_pos c3] at H
 have c3b0 : ((l0.length : Int) == (l1.length : Int)) = true := beq_iff_eq.mpr c3
 have c3b1 : ((l0.length : Int) != (l1.length : Int)) = false := bne_eq_false_iff_eq.mpr c3
 have c3b2 : (l0.length == l1.length) = true := by first | simpa using c3 | (simp at c3 ⊢; omega)
 clear c3
 have H' := Aside0.mk H
 clear H
 go_enter Tryz.func24, Tryz.ntmps24
 go_wp2
 repeat (go_quiet (fail); try go_wp2)
 go_loopg [5] k (fun kq v5 w' => ∃ (x5_1 : Int), v5 = .int .i64 x5_1 ∧ Aside0 (dialtoneref22_SameLoops.l0 kq l0 l1 x5_1 = some r) ∧ Aside0 (kq ≤ k) ∧ Drawn0 w w')
 case atStart => exact ⟨(0), (zq2), H', ⟨Nat.le_refl _⟩, zq3⟩
 case round =>
  clear H'
  try clear c1
  try clear c2
  try clear p2
  try clear c3
  try clear c3b0
  try clear c3b1
  try clear c3b2
  obtain ⟨x5_1, rfl, HA, HK1, ⟨m1, rfl⟩⟩ := hrel
  cases gk with
  | zero => exact absurd HA.out (by simp [dialtoneref22_SameLoops.l0])
  | succ k1 =>
   have H := HA.out
   clear HA
   simp only [dialtoneref22_SameLoops.l0] at H
   by_cases c4 : x5_1 < (l0.length : Int)
   rotate_left
   ·rw [if_neg c4] at H
    have c4b0 : decide (x5_1 < (l0.length : Int)) = false := decide_eq_false c4
    clear c4
    obtain rfl := Option.some.inj H
    go_wp2
    repeat (go_quiet (fail); try go_wp2)
    go_ret
    exact ⟨zq2, zq3⟩
   rw [if_pos c4] at H
   have c4b0 : decide (x5_1 < (l0.length : Int)) = true := decide_eq_true c4
   clear c4
   by_cases c5 : 0 ≤ x5_1
   rotate_left
   ·rw [if_neg c5] at H
    exact absurd H (by simp)
   rw [if_pos c5] at H
   have c5b0 : decide (0 ≤ x5_1) = true := decide_eq_true c5
   clear c5
   by_cases c6 : x5_1 < (l1.length : Int)
   rotate_left
   ·rw [if_neg c6] at H
    exact absurd H (by simp)
   rw [if_pos c6] at H
   have c6b0 : decide (x5_1 < (l1.length : Int)) = true := decide_eq_true c6
   clear c6
   replace H := Option.bind_eq_some_iff.mp H
   obtain ⟨t191, A70, H⟩ := H
   try dsimp only at H
   have A7 := Aside0.mk A70
   clear A70
   by_cases c8 : t191 = true
   rotate_left
   ·replace c8 := Bool.eq_false_iff.mpr c8
    subst c8
    rw [if_neg (show ¬ (false = true) by decide)] at H
    obtain rfl := Option.some.inj H
    have p189 : 0 ≤ (x5_1 : Int) := of_decide_eq_true (zq9)
    have q189 : x5_1 < (l0.length : Int) := of_decide_eq_true (zq9)
    obtain ⟨ad189, A189_0, c189_0, e189, hx189_0, hl189_0, hi189_0⟩ := at_L6 HR0.out x5_1 p189 q189
    cases e189
    have HR189_0 := Aside0.mk hi189_0
    have HC189_0 := Aside0.mk hl189_0
    clear hi189_0 hl189_0
    replace p189 := eq_true p189
    replace q189 := eq_true q189
    have p190 : 0 ≤ (x5_1 : Int) := of_decide_eq_true (zq9)
    have q190 : x5_1 < (l1.length : Int) := of_decide_eq_true (zq9)
    obtain ⟨ad190, A190_0, c190_0, e190, hx190_0, hl190_0, hi190_0⟩ := at_L6 HR1.out x5_1 p190 q190
    cases e190
    have HR190_0 := Aside0.mk hi190_0
    have HC190_0 := Aside0.mk hl190_0
    clear hi190_0 hl190_0
    replace p190 := eq_true p190
    replace q190 := eq_true q190
    go_wp2_with (first | (go_at_call 16; (with_reducible refine (dialtoneref22_Ints.calls k1 _ _ (rd_L6 l0 x5_1) _ _ (rd_L6 l1 x5_1) false _ ?side1 ?side2 ?side3 ?side4 A7.out).mono ?_); (case side1 => exact zq57); (case side2 => exact zq58); (case side3 => exact zq59); (case side4 => exact zq60); rintro e w' ⟨rfl, ⟨nd, rfl⟩⟩; (try first | exact ⟨rfl, _, World.drewN_drewN _ _ _⟩ | exact ⟨rfl, _, Eq.trans (World.drewN_drewN _ _ _) (congrArg (World.drewN _) (Nat.add_assoc _ _ _))⟩)))
    repeat (go_quiet (first | (go_at_call 16; (with_reducible refine (dialtoneref22_Ints.calls k1 _ _ (rd_L6 l0 x5_1) _ _ (rd_L6 l1 x5_1) false _ ?side1 ?side2 ?side3 ?side4 A7.out).mono ?_); (case side1 => exact zq57); (case side2 => exact zq58); (case side3 => exact zq59); (case side4 => exact zq60); rintro e w' ⟨rfl, ⟨nd, rfl⟩⟩; (try first | exact ⟨rfl, _, World.drewN_drewN _ _ _⟩ | exact ⟨rfl, _, Eq.trans (World.drewN_drewN _ _ _) (congrArg (World.drewN _) (Nat.add_assoc _ _ _))⟩))); try go_wp2_with (first | (go_at_call 16; (with_reducible refine (dialtoneref22_Ints.calls k1 _ _ (rd_L6 l0 x5_1) _ _ (rd_L6 l1 x5_1) false _ ?side1 ?side2 ?side3 ?side4 A7.out).mono ?_); (case side1 => exact zq57); (case side2 => exact zq58); (case side3 => exact zq59); (case side4 => exact zq60); rintro e w' ⟨rfl, ⟨nd, rfl⟩⟩; (try first | exact ⟨rfl, _, World.drewN_drewN _ _ _⟩ | exact ⟨rfl, _, Eq.trans (World.drewN_drewN _ _ _) (congrArg (World.drewN _) (Nat.add_assoc _ _ _))⟩))))
    go_ret
    exact ⟨zq2, zq3⟩
   subst c8
   rw [if_pos rfl] at H
   have H' := Aside0.mk H
   clear H
   have p189 : 0 ≤ (x5_1 : Int) := of_decide_eq_true (zq9)
   have q189 : x5_1 < (l0.length : Int) := of_decide_eq_true (zq9)
   obtain ⟨ad189, A189_0, c189_0, e189, hx189_0, hl189_0, hi189_0⟩ := at_L6 HR0.out x5_1 p189 q189
   cases e189
   have HR189_0 := Aside0.mk hi189_0
   have HC189_0 := Aside0.mk hl189_0
   clear hi189_0 hl189_0
   replace p189 := eq_true p189
   replace q189 := eq_true q189
   have p190 : 0 ≤ (x5_1 : Int) := of_decide_eq_true (zq9)
   have q190 : x5_1 < (l1.length : Int) := of_decide_eq_true (zq9)
   obtain ⟨ad190, A190_0, c190_0, e190, hx190_0, hl190_0, hi190_0⟩ := at_L6 HR1.out x5_1 p190 q190
   cases e190
   have HR190_0 := Aside0.mk hi190_0
   have HC190_0 := Aside0.mk hl190_0
   clear hi190_0 hl190_0
   replace p190 := eq_true p190
   replace q190 := eq_true q190
   go_wp2_with (first | (go_at_call 16; (with_reducible refine (dialtoneref22_Ints.calls k1 _ _ (rd_L6 l0 x5_1) _ _ (rd_L6 l1 x5_1) true _ ?side1 ?side2 ?side3 ?side4 A7.out).mono ?_); (case side1 => exact zq57); (case side2 => exact zq58); (case side3 => exact zq59); (case side4 => exact zq60); rintro e w' ⟨rfl, ⟨nd, rfl⟩⟩; (try first | exact ⟨rfl, _, World.drewN_drewN _ _ _⟩ | exact ⟨rfl, _, Eq.trans (World.drewN_drewN _ _ _) (congrArg (World.drewN _) (Nat.add_assoc _ _ _))⟩)))
   repeat (go_quiet (first | (go_at_call 16; (with_reducible refine (dialtoneref22_Ints.calls k1 _ _ (rd_L6 l0 x5_1) _ _ (rd_L6 l1 x5_1) true _ ?side1 ?side2 ?side3 ?side4 A7.out).mono ?_); (case side1 => exact zq57); (case side2 => exact zq58); (case side3 => exact zq59); (case side4 => exact zq60); rintro e w' ⟨rfl, ⟨nd, rfl⟩⟩; (try first | exact ⟨rfl, _, World.drewN_drewN _ _ _⟩ | exact ⟨rfl, _, Eq.trans (World.drewN_drewN _ _ _) (congrArg (World.drewN _) (Nat.add_assoc _ _ _))⟩))); try go_wp2_with (first | (go_at_call 16; (with_reducible refine (dialtoneref22_Ints.calls k1 _ _ (rd_L6 l0 x5_1) _ _ (rd_L6 l1 x5_1) true _ ?side1 ?side2 ?side3 ?side4 A7.out).mono ?_); (case side1 => exact zq57); (case side2 => exact zq58); (case side3 => exact zq59); (case side4 => exact zq60); rintro e w' ⟨rfl, ⟨nd, rfl⟩⟩; (try first | exact ⟨rfl, _, World.drewN_drewN _ _ _⟩ | exact ⟨rfl, _, Eq.trans (World.drewN_drewN _ _ _) (congrArg (World.drewN _) (Nat.add_assoc _ _ _))⟩))))
   go_roundg k1
   case measure => have := HK1.out; omega
   case rel => exact ⟨(wrap64 (x5_1 + 1)), (zq2), H', ⟨zq10⟩, zq3⟩
end Go.Proofs.YtkfejgdeknemaaaGreatDoor.Fw
end
section
namespace Go.Proofs.YtkfejgdeknemaaaGreatDoor.Pure
open Go.RowKit Go.Proofs.YtkfejgdeknemaaaGreatDoorW.PrintWords Go.Proofs.YtkfejgdeknemaaaGreatDoorW.PrintLast Go.Proofs.YtkfejgdeknemaaaGreatDoorW.PrintMore Go.Proofs.YtkfejgdeknemaaaGreatDoor.Fw
set_option linter.unusedVariables false
set_option linter.unusedSimpArgs false
theorem w64 {n : Int} (h : -9223372036854775808 ≤ n) (h' : n ≤ 9223372036854775807) : wrap64 n = n := by unfold wrap64; omega
theorem wi (i : Nat) (h : i < 9223372036854775807) : wrap64 ((i : Int) + 1) = ((i + 1 : Nat) : Int) := by rw [w64 (by omega) (by omega)]; omega
def J64 (n : Int) : Prop := -9223372036854775808 ≤ n ∧ n ≤ 9223372036854775807
theorem pick_lt (c : Int) (hc : J64 c) (n : Nat) (hn : 0 < n) : ∃ r : Nat, r < n ∧ dialtoneref22_pick.f c (n : Int) = some (r : Int) := by
  obtain ⟨h1, h2⟩ := hc
  unfold dialtoneref22_pick.f
  have hz : ¬ (n : Int) = 0 := by omega
  by_cases h : c < 0
  · have e : wrap64 (-(wrap64 (c + 1))) = ((-(c + 1)).toNat : Int) := by rw [w64 (n := c + 1) (by omega) (by omega), w64 (by omega) (by omega)]; omega
    refine ⟨(-(c + 1)).toNat % n, Nat.mod_lt _ hn, ?_⟩
    rw [if_pos h, if_neg hz, e, Int.tmod_eq_emod_of_nonneg (by omega)]
    rfl
  · refine ⟨c.toNat % n, Nat.mod_lt _ hn, ?_⟩
    have e : c = (c.toNat : Int) := by omega
    rw [if_neg h, if_neg hz, Int.tmod_eq_emod_of_nonneg (by omega)]
    rw [e]; rfl
structure OneS (s : S41) : Prop where
  n : 10 ≤ s.f0 ∧ s.f0 ≤ 17
  k : 1 ≤ s.f1 ∧ s.f1 ≤ 4
  t : 10 ≤ s.f2 ∧ s.f2 ≤ 17
  ne : s.f0 ≠ s.f2
  sp : 0 ≤ s.f3.f0 ∧ s.f3.f0 < s.f3.f1 ∧ s.f3.f1 ≤ 110
theorem OneS.formed {s : S41} (h : OneS s) : formed s = true := by
  obtain ⟨h1, h2, h3, h4, h5⟩ := h
  unfold Fw.formed inB
  simp only [Bool.and_eq_true, decide_eq_true_eq, Bool.not_eq_true', decide_eq_false_iff_not]
  exact ⟨by omega, by omega, h4, by omega, by omega, by omega, by omega⟩
theorem ws {n : Int} (h : -1000 ≤ n) (h' : n ≤ 1000) : wrap64 n = n := w64 (by omega) (by omega)
theorem mod8 : ∀ r0 < 8, ∀ r2 < 7, (r0 + 1 + r2) % 8 < 8 ∧ (r0 + 1 + r2) % 8 ≠ r0 := by decide
theorem one_made (x0 x1 x2 x3 x4 : Int) (h0 : J64 x0) (h1 : J64 x1) (h2 : J64 x2) (h3 : J64 x3) (h4 : J64 x4) : ∃ s : S41, OneS s ∧ dialtoneref22_One.f x0 x1 x2 x3 x4 = some (s.f0, s.f1, s.f2, s.f3.f0, s.f3.f1) := by
  obtain ⟨r0, l0, e0⟩ := pick_lt x0 h0 8 (by decide)
  obtain ⟨r2, l2, e2⟩ := pick_lt x2 h2 7 (by decide)
  obtain ⟨r3, l3, e3⟩ := pick_lt x3 h3 50 (by decide)
  obtain ⟨r4, l4, e4⟩ := pick_lt x4 h4 60 (by decide)
  obtain ⟨r1, l1, e1⟩ := pick_lt x1 h1 8 (by decide)
  have e0' : dialtoneref22_pick.f x0 8 = some (r0 : Int) := e0
  have e2' : dialtoneref22_pick.f x2 7 = some (r2 : Int) := e2
  have e3' : dialtoneref22_pick.f x3 50 = some (r3 : Int) := e3
  have e4' : dialtoneref22_pick.f x4 60 = some (r4 : Int) := e4
  have e1' : dialtoneref22_pick.f x1 8 = some (r1 : Int) := e1
  obtain ⟨q, hq0, hq1, wd⟩ : ∃ q : Nat, q < 8 ∧ q ≠ r0 ∧ Int.tmod ((r0 : Int) + 1 + (r2 : Int)) 8 = (q : Int) := by
    refine ⟨(r0 + 1 + r2) % 8, (mod8 r0 l0 r2 l2).1, (mod8 r0 l0 r2 l2).2, ?_⟩
    rw [Int.tmod_eq_emod_of_nonneg (by clear e0 e1 e2 e3 e4 e0' e1' e2' e3' e4'; omega), show (r0 : Int) + 1 + (r2 : Int) = ((r0 + 1 + r2 : Nat) : Int) by clear e0 e1 e2 e3 e4 e0' e1' e2' e3' e4'; omega]
    rfl
  clear e0 e1 e2 e3 e4 h0 h1 h2 h3 h4
  unfold dialtoneref22_One.f dialtoneref22_Part.f
  simp only [e0', e1', e2', e3', e4', Option.bind_some]
  clear e0' e1' e2' e3' e4'
  rw [ws (n := (r0 : Int) + 1) (by clear wd; omega) (by clear wd; omega), ws (n := (r0 : Int) + 1 + r2) (by clear wd; omega) (by clear wd; omega), wd]
  clear wd
  rw [ws (n := 10 + (r0 : Int)) (by omega) (by omega), ws (n := 10 + (q : Int)) (by omega) (by omega), ws (n := (r3 : Int) + 1) (by omega) (by omega), ws (n := (r3 : Int) + 1 + r4) (by omega) (by omega), ws (n := (r1 : Int) - 3) (by omega) (by omega)]
  by_cases hk : (r1 : Int) > 4
  · refine ⟨⟨10 + r0, r1 - 3, 10 + (q : Int), ⟨r3, r3 + 1 + r4⟩⟩, ⟨by dsimp only; omega, by dsimp only; omega, by dsimp only; omega, by dsimp only; omega, by dsimp only; omega⟩, by rw [if_pos hk]⟩
  · refine ⟨⟨10 + r0, 1, 10 + (q : Int), ⟨r3, r3 + 1 + r4⟩⟩, ⟨by dsimp only; omega, by dsimp only; omega, by dsimp only; omega, by dsimp only; omega, by dsimp only; omega⟩, by rw [if_neg hk]⟩
theorem rnumber (n : Int) : dialtoneref22_number.f n = some (inB n 0 99999999) := by
  unfold dialtoneref22_number.f inB
  by_cases h : 0 ≤ n <;> simp [h]
theorem rformed (s : S41) : dialtoneref22_formed.f s.f0 s.f1 s.f2 s.f3.f0 s.f3.f1 = some (formed s) := by
  unfold dialtoneref22_formed.f formed
  rw [rnumber, rnumber]
  cases inB s.f0 0 99999999
  · rfl
  cases inB s.f2 0 99999999
  · rfl
  simp only [Option.bind_some, if_true, Bool.true_and]
  by_cases a5 : s.f0 = s.f2
  · simp [a5]
  simp only [a5, if_false, decide_false, Bool.not_false, Bool.true_and, inB]
  by_cases a6 : 1 ≤ s.f1
  · by_cases a7 : s.f1 ≤ 4
    · by_cases a8 : 0 ≤ s.f3.f0
      · by_cases a9 : s.f3.f0 < s.f3.f1
        · simp [a6, a7, a8, a9]
        · simp [a6, a7, a8, a9]
      · simp [a6, a7, a8]
    · simp [a6, a7]
  · simp [a6]
theorem formed_lt {s : S41} (h : formed s = true) : s.f3.f0 < s.f3.f1 := by
  simp only [formed, Bool.and_eq_true, decide_eq_true_eq] at h
  exact h.2.2.2.2.2.1
theorem clash_max {r s : S41} (hr : s.f3.f0 < s.f3.f1) (hs : r.f3.f0 < r.f3.f1) : clash r s = true ↔ s.f0 = r.f0 ∧ s.f1 = r.f1 ∧ mx s.f3.f0 r.f3.f0 < mn s.f3.f1 r.f3.f1 := by
  unfold clash hasAt mx mn
  simp only [Bool.and_eq_true, beq_iff_eq, Bool.or_eq_true, decide_eq_true_eq]
  constructor
  · rintro ⟨h1, h2, h3⟩
    refine ⟨h1.symm, h2.symm, ?_⟩
    split <;> split <;> omega
  · rintro ⟨h1, h2, h3⟩
    refine ⟨h1.symm, h2.symm, ?_⟩
    split at h3 <;> split at h3 <;> omega
theorem rd41 (l : List S41) (i : Nat) (h : i < l.length) : rd_T41 l (i : Int) = l[i] := by
  unfold rd_T41
  rw [Int.toNat_natCast, List.getD_eq_getElem?_getD, List.getElem?_eq_getElem h]
  rfl
theorem rd66 (l : List S66) (i : Nat) (h : i < l.length) : rd_T66 l (i : Int) = l[i] := by
  unfold rd_T66
  rw [Int.toNat_natCast, List.getD_eq_getElem?_getD, List.getElem?_eq_getElem h]
  rfl
theorem rdI (l : List Int) (i : Nat) (h : i < l.length) : rd l (i : Int) = l[i] := by
  unfold rd
  rw [Int.toNat_natCast, List.getD_eq_getElem?_getD, List.getElem?_eq_getElem h]
  rfl
theorem drop_at {α : Type} (p : List α) (i : Nat) (h : i < p.length) : p.drop i = p[i] :: p.drop (i + 1) := List.drop_eq_getElem_cons h
theorem take_at {α : Type} (p : List α) (i : Nat) (h : i < p.length) : p.take i ++ [p[i]] = p.take (i + 1) := by rw [List.take_succ_eq_append_getElem h]
theorem set_in (l : List S41) (hl : l.length < 4000000000) (i : Nat) (hi : i < l.length) (hf : ∀ r ∈ l.take (i + 1), formed r = true) (R : Bool)
    (hR : Ev (fun k => dialtoneref22_Settings.l0 k l ((i + 1 : Nat) : Int)) R) : ∀ m j : Nat, m + j = i → Ev (fun k => dialtoneref22_Settings.l1 k l (i : Int) (j : Int)) (!(((l.take i).drop j).any fun r => clash r l[i]) && R)
  | 0, j, hj => by
    refine Ev.step (fun k => by rw [dialtoneref22_Settings.l1]) ?_
    have h1 : ¬ ((j : Int) < i) := by omega
    simp only [h1, if_false, wi i (by omega)]
    rw [List.drop_eq_nil_of_le (by simp; omega)]
    simpa using hR
  | m + 1, j, hj => by
    refine Ev.step (fun k => by rw [dialtoneref22_Settings.l1]) ?_
    have h1 : ((j : Int) < i) := by omega
    have h2 : (0 : Int) ≤ i := by omega
    have h3 : ((i : Int) < l.length) := by omega
    have h4 : (0 : Int) ≤ j := by omega
    have h5 : ((j : Int) < l.length) := by omega
    have hjl : j < l.length := by omega
    have ih := set_in l hl i hi hf R hR m (j + 1) (by omega)
    have hc := @clash_max l[j] l[i] (formed_lt (hf l[i] (List.mem_take_iff_getElem.2 ⟨i, by omega, rfl⟩))) (formed_lt (hf l[j] (List.mem_take_iff_getElem.2 ⟨j, by omega, rfl⟩)))
    have hd : (l.take i).drop j = l[j] :: (l.take i).drop (j + 1) := by
      rw [List.drop_eq_getElem_cons (by simp; omega)]
      simp
    simp only [h1, h2, h3, h4, h5, if_true, rd41 l i hi, rd41 l j hjl, wi j (by omega), hd, List.any_cons]
    by_cases c1 : l[i].f0 = l[j].f0
    · by_cases c2 : l[i].f1 = l[j].f1
      · by_cases c3 : mx l[i].f3.f0 l[j].f3.f0 < mn l[i].f3.f1 l[j].f3.f1
        · simp only [c1, c2, c3, if_true, hc.2 ⟨c1, c2, c3⟩]
          exact Ev.now _
        · have hn : clash l[j] l[i] = false := by rw [Bool.eq_false_iff]; intro h; exact c3 (hc.1 h).2.2
          simp only [c1, c2, c3, if_true, if_false, hn, Bool.false_or]
          exact ih
      · have hn : clash l[j] l[i] = false := by rw [Bool.eq_false_iff]; intro h; exact c2 (hc.1 h).2.1
        simp only [c1, c2, if_true, if_false, hn, Bool.false_or]
        exact ih
    · have hn : clash l[j] l[i] = false := by rw [Bool.eq_false_iff]; intro h; exact c1 (hc.1 h).1
      simp only [c1, if_false, hn, Bool.false_or]
      exact ih
theorem set_out (l : List S41) (hl : l.length < 4000000000) : ∀ m i : Nat, m + i = l.length → (∀ r ∈ l.take i, formed r = true) → Ev (fun k => dialtoneref22_Settings.l0 k l (i : Int)) (areGo (l.take i) (l.drop i))
  | 0, i, hi, hf => by
    refine Ev.step (fun k => by rw [dialtoneref22_Settings.l0]) ?_
    have h1 : ¬ ((i : Int) < l.length) := by omega
    simp only [h1, if_false]
    rw [List.drop_eq_nil_of_le (by omega)]
    simp only [areGo]
    exact Ev.now _
  | m + 1, i, hi, hf => by
    refine Ev.step (fun k => by rw [dialtoneref22_Settings.l0]) ?_
    have h1 : ((i : Int) < l.length) := by omega
    have h2 : (0 : Int) ≤ i := by omega
    have hil : i < l.length := by omega
    simp only [h1, h2, if_true, rd41 l i hil, rformed, Option.bind_some, drop_at l i hil, areGo]
    cases hx : formed l[i] with
    | false => simp; exact Ev.now _
    | true =>
      simp only [if_true, Bool.true_and]
      have hf' : ∀ r ∈ l.take (i + 1), formed r = true := by
        intro r hr
        rw [← take_at l i hil] at hr
        rcases List.mem_append.1 hr with hr | hr
        · exact hf r hr
        · rw [List.mem_singleton.1 hr]; exact hx
      have hR := set_out l hl m (i + 1) (by omega) hf'
      rw [← take_at l i hil] at hR
      have := set_in l hl i hil hf' _ hR i 0 (by omega)
      simpa using this
theorem set_ev (l : List S41) (hl : l.length < 4000000000) : Ev (fun k => dialtoneref22_Settings.f k l) (areS l) := by
  unfold dialtoneref22_Settings.f areS
  by_cases h : l.length ≤ 40
  · have h1 : ¬ ((l.length : Int) > 40) := by omega
    simp only [h1, if_false, h, decide_true, Bool.true_and]
    simpa using set_out l hl l.length 0 (by omega) (by simp)
  · have h1 : ((l.length : Int) > 40) := by omega
    simp only [h1, if_true, h, decide_false, Bool.false_and]
    exact Ev.now _
def Ints5 (l : List S66) : Prop := l.length ≤ 9223372036854775807 ∧ ∀ x ∈ l, J64 x.f0 ∧ J64 x.f1 ∧ J64 x.f2 ∧ J64 x.f3 ∧ J64 x.f4
theorem made_from (l : List S66) (hl : Ints5 l) : ∀ m i : Nat, m + i = min l.length 16 → ∀ p : List S41, areS p = true → (∀ s ∈ p, OneS s) → p.length ≤ i → ∃ q, areS q = true ∧ (∀ s ∈ q, OneS s) ∧ q.length ≤ 16 ∧ Ev (fun k => dialtoneref22_Made.l0 k l p (i : Int)) q := by
  intro m
  induction m with
  | zero =>
    intro i hi p hv ho hp
    refine ⟨p, hv, ho, by omega, Ev.step (fun k => by rw [dialtoneref22_Made.l0]) ?_⟩
    by_cases h1 : (i : Int) < l.length
    · have h2 : ¬ ((i : Int) < 16) := by omega
      simp only [h1, h2, if_true, decide_false]
      refine Ev.step (fun k => by rw [dialtoneref22_Made.j1]) ?_
      simp only [Bool.false_eq_true, if_false]
      exact Ev.now _
    · simp only [h1, if_false]
      refine Ev.step (fun k => by rw [dialtoneref22_Made.j1]) ?_
      simp only [Bool.false_eq_true, if_false]
      exact Ev.now _
  | succ m ih =>
    intro i hi p hv ho hp
    have h1 : ((i : Int) < l.length) := by omega
    have h2 : ((i : Int) < 16) := by omega
    have hil : i < l.length := by omega
    have hx := hl.2 l[i] (List.getElem_mem hil)
    obtain ⟨s, hs, e⟩ := one_made l[i].f0 l[i].f1 l[i].f2 l[i].f3 l[i].f4 hx.1 hx.2.1 hx.2.2.1 hx.2.2.2.1 hx.2.2.2.2
    have hnx : ∃ q, areS q = true ∧ (∀ s ∈ q, OneS s) ∧ q.length ≤ 16 ∧ Ev (fun k => if areS (p ++ [s]) = true then dialtoneref22_Made.l0 k l (p ++ [s]) (wrap64 ((i : Int) + 1)) else dialtoneref22_Made.l0 k l p (wrap64 ((i : Int) + 1))) q := by
      rw [wi i (by omega)]
      by_cases hvp : areS (p ++ [s]) = true
      · obtain ⟨q, hq⟩ := ih (i + 1) (by omega) (p ++ [s]) hvp (fun r hr => by rcases List.mem_append.1 hr with hr | hr; exact ho r hr; rw [List.mem_singleton.1 hr]; exact hs) (by simp; omega)
        exact ⟨q, by simpa only [hvp, if_true] using hq⟩
      · obtain ⟨q, hq⟩ := ih (i + 1) (by omega) p hv ho (by omega)
        exact ⟨q, by simpa only [hvp, if_false, Bool.false_eq_true] using hq⟩
    obtain ⟨q, hq1, hq2, hq3, hq4⟩ := hnx
    refine ⟨q, hq1, hq2, hq3, Ev.step (fun k => by rw [dialtoneref22_Made.l0]) ?_⟩
    simp only [h1, h2, if_true, decide_true]
    refine Ev.step (fun k => by rw [dialtoneref22_Made.j1]) ?_
    have h4 : (0 : Int) ≤ i := by omega
    have h5 : 0 + p.length < 3518437208883 := by omega
    have h6 : p.length < 3518437208883 := by omega
    simp only [if_true, Option.bind_some, List.length_nil, List.nil_append, h1, h4, h5, h6, rd66 l i hil, e]
    refine Ev.bind (set_ev (p ++ [s]) (by simp; omega)) ?_
    exact hq4
theorem made_ev (l : List S66) (hl : Ints5 l) : ∃ p, areS p = true ∧ (∀ s ∈ p, OneS s) ∧ p.length ≤ 16 ∧ Ev (fun k => dialtoneref22_Made.f k l) p := by
  obtain ⟨p, h1, h2, h3, h4⟩ := made_from l hl (min l.length 16) 0 (by omega) [] (by decide) (by simp) (by simp)
  exact ⟨p, h1, h2, h3, by simpa [dialtoneref22_Made.f] using h4⟩
structure ConS (q : List S37) : Prop where
  asc : q.Pairwise fun a b => a.f0 < b.f0
  all : ∀ c ∈ q, 10 ≤ c.f0 ∧ c.f0 ≤ 17 ∧ 2 ≤ c.f1 ∧ c.f1 ≤ 4
  len : q.length ≤ 8
theorem badAny_asc : ∀ (q : List S37) (la : Int), la < 10 ∨ (∀ c ∈ q, la < c.f0) → (q.Pairwise fun a b => a.f0 < b.f0) → (∀ c ∈ q, 10 ≤ c.f0 ∧ c.f0 ≤ 99999999 ∧ 2 ≤ c.f1 ∧ c.f1 ≤ 4) → badAny la q = false
  | [], _, _, _, _ => rfl
  | c :: cs, la, h0, h1, h2 => by
    have hc := h2 c List.mem_cons_self
    obtain ⟨p1, p2⟩ := List.pairwise_cons.1 h1
    unfold badAny badC inB
    rw [badAny_asc cs c.f0 (.inr p1) p2 (fun d hd => h2 d (List.mem_cons_of_mem _ hd))]
    have hla : ¬ c.f0 ≤ la := by
      rcases h0 with h0 | h0
      · omega
      · have := h0 c List.mem_cons_self; omega
    simp [hla, hc]
    omega
theorem ConS.ok {q : List S37} (h : ConS q) : badAny (-1) q = false := badAny_asc q (-1) (.inl (by omega)) h.asc (fun c hc => by have := h.all c hc; omega)
theorem cond_from (x4 : Int) (hx : 0 ≤ x4) : ∀ m i : Nat, m + i = 8 → ∀ p : List S37, (p.Pairwise fun a b => a.f0 < b.f0) → (∀ c ∈ p, 10 ≤ c.f0 ∧ c.f0 < 10 + (i : Int) ∧ 2 ≤ c.f1 ∧ c.f1 ≤ 4) → p.length ≤ i → ∃ q, ConS q ∧ Ev (fun k => dialtoneref22_Conditions.l0 k p x4 (i : Int)) q := by
  intro m
  induction m with
  | zero =>
    intro i hi p h1 h2 h3
    refine ⟨p, ⟨h1, fun c hc => by have := h2 c hc; omega, by omega⟩, Ev.step (fun k => by rw [dialtoneref22_Conditions.l0]) ?_⟩
    have hc : ¬ ((i : Int) < 8) := by omega
    simp only [hc, if_false]
    exact Ev.now _
  | succ m ih =>
    intro i hi p h1 h2 h3
    have hc : ((i : Int) < 8) := by omega
    have hw : wrap64 (2 * (i : Int)) = 2 * (i : Int) := w64 (by omega) (by omega)
    have hw0 : (0 : Int) ≤ 2 * (i : Int) := by omega
    have hw1 : wrap64 (10 + (i : Int)) = 10 + (i : Int) := w64 (by omega) (by omega)
    have hp : p.length < 8796093022208 := by omega
    have hm := Int.tmod_lt_of_pos (shr .i64 x4 (2 * (i : Int))) (show (0 : Int) < 4 by decide)
    obtain ⟨q, hq, he⟩ : ∃ q, ConS q ∧ Ev (fun k => if Int.tmod (shr .i64 x4 (2 * (i : Int))) 4 > 0 then dialtoneref22_Conditions.l0 k (p ++ [⟨10 + (i : Int), wrap64 (1 + Int.tmod (shr .i64 x4 (2 * (i : Int))) 4)⟩]) x4 ((i + 1 : Nat) : Int) else dialtoneref22_Conditions.l0 k p x4 ((i + 1 : Nat) : Int)) q := by
      by_cases hb : Int.tmod (shr .i64 x4 (2 * (i : Int))) 4 > 0
      · have hw2 : wrap64 (1 + Int.tmod (shr .i64 x4 (2 * (i : Int))) 4) = 1 + Int.tmod (shr .i64 x4 (2 * (i : Int))) 4 := w64 (by omega) (by omega)
        simp only [hb, if_true, hw2]
        refine ih (i + 1) (by omega) _ ?_ ?_ (by simp; omega)
        · rw [List.pairwise_append]
          refine ⟨h1, by simp, fun a ha b hb' => ?_⟩
          rw [List.mem_singleton.1 hb']
          have := h2 a ha
          dsimp only
          omega
        · intro c hc'
          rcases List.mem_append.1 hc' with hc' | hc'
          · have := h2 c hc'; omega
          · rw [List.mem_singleton.1 hc']; dsimp only; omega
      · simp only [hb, if_false]
        exact ih (i + 1) (by omega) p h1 (fun c hc' => by have := h2 c hc'; omega) (by omega)
    refine ⟨q, hq, Ev.step (fun k => by rw [dialtoneref22_Conditions.l0]) ?_⟩
    simp only [hc, hw, hw0, hw1, hp, if_true, wi i (by omega)]
    exact he
theorem cond_ev (c : Int) (hc : J64 c) : ∃ q, ConS q ∧ Ev (fun k => dialtoneref22_Conditions.f k c) q := by
  obtain ⟨r, lr, er⟩ := pick_lt c hc 65536 (by decide)
  obtain ⟨q, h1, h2⟩ := cond_from (r : Int) (by omega) 8 0 (by omega) [] (by simp) (by simp) (by simp)
  refine ⟨q, h1, ?_⟩
  have er' : dialtoneref22_pick.f c 65536 = some (r : Int) := er
  unfold dialtoneref22_Conditions.f
  simp only [er', Option.bind_some]
  exact h2
theorem val_of {l : List S41} {q : List S37} (h : areS l = true) (hq : ConS q) : valS l q = true := by
  unfold valS
  rw [h, hq.ok]
  have := hq.len
  simp
  omega
end Go.Proofs.YtkfejgdeknemaaaGreatDoor.Pure
end
section
namespace Go.Proofs.YtkfejgdeknemaaaGreatDoor.Pure
open Go.RowKit Go.Proofs.YtkfejgdeknemaaaGreatDoorW.PrintWords Go.Proofs.YtkfejgdeknemaaaGreatDoorW.PrintLast Go.Proofs.YtkfejgdeknemaaaGreatDoorW.PrintMore Go.Proofs.YtkfejgdeknemaaaGreatDoor.Fw
set_option linter.unusedVariables false
set_option linter.unusedSimpArgs false
theorem ints_from (a b : List Int) (hl : a.length < 4000000000) (hab : a.length = b.length) : ∀ m i : Nat, m + i = a.length → Ev (fun k => dialtoneref22_Ints.l0 k a b (i : Int)) (a.drop i == b.drop i)
  | 0, i, hi => by
    refine Ev.step (fun k => by rw [dialtoneref22_Ints.l0]) ?_
    have h1 : ¬ ((i : Int) < a.length) := by omega
    simp only [h1, if_false]
    rw [List.drop_eq_nil_of_le (by omega), List.drop_eq_nil_of_le (by omega)]
    exact Ev.now _
  | m + 1, i, hi => by
    refine Ev.step (fun k => by rw [dialtoneref22_Ints.l0]) ?_
    have h1 : ((i : Int) < a.length) := by omega
    have h2 : (0 : Int) ≤ i := by omega
    have h3 : ((i : Int) < b.length) := by omega
    have hil : i < a.length := by omega
    have hib : i < b.length := by omega
    simp only [h1, h2, h3, if_true, rdI a i hil, rdI b i hib, wi i (by omega), drop_at a i hil, drop_at b i hib]
    by_cases c : a[i] = b[i]
    · have e : (a[i] :: a.drop (i + 1) == b[i] :: b.drop (i + 1)) = (a.drop (i + 1) == b.drop (i + 1)) := by rw [List.cons_beq_cons, c]; simp
      rw [e]
      simp only [c, if_true]
      exact ints_from a b hl hab m (i + 1) (by omega)
    · have e : (a[i] :: a.drop (i + 1) == b[i] :: b.drop (i + 1)) = false := by rw [beq_eq_false_iff_ne]; intro h; exact c (List.cons.inj h).1
      simp only [c, if_false, e]
      exact Ev.now _
theorem ints_ev (a b : List Int) (hl : a.length < 4000000000) : Ev (fun k => dialtoneref22_Ints.f k a b) (a == b) := by
  unfold dialtoneref22_Ints.f
  by_cases h : a.length = b.length
  · have h' : (a.length : Int) = (b.length : Int) := by omega
    simp only [h', if_true]
    simpa using ints_from a b hl h a.length 0 (by omega)
  · have h' : ¬ (a.length : Int) = (b.length : Int) := by omega
    have e : (a == b) = false := by rw [beq_eq_false_iff_ne]; intro e; exact h (by rw [e])
    simp only [h', if_false, e]
    exact Ev.now _
theorem ints_true {a b : List Int} (h : a = b) (hl : a.length < 4000000000) : Ev (fun k => dialtoneref22_Ints.f k a b) true := by
  have h2 := ints_ev a b hl
  rw [h] at h2
  rw [h]
  simpa using h2
theorem resGo_path (cn C : Int → Option Int) (l : List S41) : ∀ (f : Nat) (p u : List Int) (x : Int), ∃ q v : List Int, (resGo cn C l f p u x).2.1 = p ++ q ∧ (resGo cn C l f p u x).2.2 = u ++ v ∧ q.length = v.length ∧ q.length ≤ f
  | 0, p, u, x => ⟨[], [], by simp [resGo], by simp [resGo], rfl, by simp⟩
  | f + 1, p, u, x => by
    unfold resGo
    cases hc : cn x with
    | none => exact ⟨[], [], by simp, by simp, rfl, by simp⟩
    | some i =>
      simp only
      by_cases c1 : u.length = 5
      · rw [if_pos c1]; exact ⟨[], [], by simp, by simp, rfl, by simp⟩
      · rw [if_neg c1]
        by_cases c2 : p.contains (toOf l i) = true
        · rw [if_pos c2]; exact ⟨[toOf l i], [i], by simp, by simp, rfl, by simp⟩
        · rw [if_neg c2]
          obtain ⟨q, v, h1, h2, h3, h4⟩ := resGo_path cn C l f (p ++ [toOf l i]) (u ++ [i]) (toOf l i)
          exact ⟨toOf l i :: q, i :: v, by rw [h1]; simp, by rw [h2]; simp, by simp [h3], by simp; omega⟩
theorem resS_path (l : List S41) (cs : List S37) (n t : Int) : ∃ q v : List Int, (resS l cs n t).2.1 = n :: q ∧ (resS l cs n t).2.2 = v ∧ q.length = v.length ∧ q.length ≤ 6 := by
  obtain ⟨q, v, h1, h2, h3, h4⟩ := resGo_path (cnt (gOf l t) (cOf cs)) (cOf cs) l 6 [n] [] n
  exact ⟨q, v, by simpa [resS] using h1, by simpa [resS] using h2, h3, h4⟩
theorem res_ok {l : List S41} {cs : List S37} {n t : Int} (hv : valS l cs = true) (hn : 0 ≤ n ∧ n ≤ 99999999) (ht : 0 ≤ t ∧ t ≤ 10000000) : forward_Resolve.f l cs n t = some ((resS l cs n t).1, (resS l cs n t).2.1, (resS l cs n t).2.2, 0) := by
  unfold forward_Resolve.f
  rw [if_pos]
  simp [hv, inB, hn, ht]
end Go.Proofs.YtkfejgdeknemaaaGreatDoor.Pure
end
