/- Mr: part 10 of the proof that the law's row holds: the printed walk of the program's functions, the plain law, the row. -/
import Derived.Test.YtlmfoblgheepoaaGreatDoorQMr8
section
open Go.Proofs.YtlmfoblgheepoaaGreatDoor.Z
namespace Go.Proofs.YtlmfoblgheepoaaGreatDoor.Pl
open Go.RowKit Go.Proofs.YtlmfoblgheepoaaGreatDoorW.PrintWords Go.Proofs.YtlmfoblgheepoaaGreatDoorW.PrintLast Go.Proofs.YtlmfoblgheepoaaGreatDoorW.PrintMore
attribute [local go_sem] max2_int min2_int max_two min_two max_three min_three max_four min_four
set_option linter.unusedVariables false
set_option linter.unusedSimpArgs false
open Go.Proofs.GMap Go.Maps
open Go.WideMaps (keyOf_string_mk)
abbrev Ent := Int × Int × ByteArray
def encE (e : Ent) : Value := .agg #[.int .i64 e.1, .int .i64 e.2.1, .string e.2.2]
def lookE (L : List (ByteArray × Ent)) (s : ByteArray) : Option Ent := (L.find? (fun p => decide (p.1 = s))).map (·.2)
def MapE (w : World) (b n : Nat) (L : List (ByteArray × Ent)) : Prop :=
 ∃ F, MapV Tryz.prog 9 w b n F ∧ ∀ s, F (.string s) = (lookE L s).map encE
theorem MapE.put {L : List (ByteArray × Ent)} {F : Value → Option Value} (hF : ∀ s, F (.string s) = (lookE L s).map encE) (k : ByteArray) (e : Ent) :
 ∀ s, upd F (.string k) (encE e) (.string s) = (lookE ((k, e) :: L) s).map encE := by
 intro s
 by_cases h : s = k
 ·subst h; rw [upd_same]; simp [lookE, List.find?_cons]
 rw [upd_other _ _ (by simpa using h), hF]
 have : ¬ k = s := fun e => h e.symm
 simp [lookE, this]
theorem MapE.below {w w' : World} {b n : Nat} {L : List (ByteArray × Ent)} (h : MapE w b n L) (hb : Below w.heap.size w w') : MapE w' b n L := let ⟨F, h, s⟩ := h; ⟨F, h.below hb, s⟩
theorem MapE.drew {w : World} {b n : Nat} {L : List (ByteArray × Ent)} (h : MapE w b n L) : MapE w.drew b n L := let ⟨F, h, s⟩ := h; ⟨F, h.drew, s⟩
theorem keyed9 : Keyed Tryz.prog 9 := string_keyed Tryz.underlying9
def entStep (ph : Int) (c : S29) (i : Int) (L : List (ByteArray × Ent)) : Option (List (ByteArray × Ent)) :=
 if c.f0.size ≤ 1000 ∧ c.f1.size ≤ 1000 then
  (if ph ≠ 3 then (plan_room.f c.f0 c.f1 c.f2).bind fun r => (strings_Repeat.f ⟨#[48]⟩ (wrap64 (wrap64 (8 - (c.f1.size : Int)) - r))).bind fun z => (if c.f1.size + z.size ≤ 9223372036854775807 then some ((c.f0, (i, c.f2, c.f1 ++ z)) :: L) else none) else some L).bind fun L1 =>
   some (if ph ≠ 1 then (c.f1, (i, 8, c.f1)) :: L1 else L1)
 else none
def entGo (ph : Int) : List S29 → Nat → List (ByteArray × Ent) → Option (List (ByteArray × Ent))
 | [], _, L => some L
 | c :: cs, i, L => (entStep ph c i L).bind fun L1 => entGo ph cs (i + 1) L1
set_option maxHeartbeats 400000 in
set_option maxRecDepth 100000 in
theorem plan_entries.calls (A0 : Option Addr) (c0 : Nat) (l0 : List S29) (a1 : Int) (L : List (ByteArray × Ent)) (w : World) (hr0 : Kd.C k29 w A0 l0.length l0) (hl0 : l0.length ≤ 1000) (h : entGo a1 l0 0 [] = some L) :
 Calls Tryz.prog 50 #[.slice A0 l0.length c0, .int .i64 a1] w fun e w' => ∃ b n, e = .returned (.map (some b)) ∧ MapE w' b n L ∧ Below w.heap.size w w' := by
 have HB := Aside0.mk (Below.refl w.heap.size w)
 have HL := Aside0.mk h
 have HR := Aside0.mk hr0
 clear h hr0
 have hmm := @run_makeMap Tryz.prog
 go_enter Tryz.func50, Tryz.ntmps50
 go_wp2
 have hm0 : MapV Tryz.prog 9 (w.alloc (.map #[] 0)) w.heap.size 0 (fun _ => none) := MapV.made _ _ _
 have HM := Aside0.mk (show ∃ F, MapV Tryz.prog 9 (w.alloc (.map #[] 0)) w.heap.size (2 * 0) F ∧ ∀ s, F (.string s) = (lookE [] s).map encE from ⟨_, hm0, fun s => rfl⟩)
 clear hm0
 go_loopw [11] (fun v wr => ∃ i : Nat, i ≤ l0.length ∧ v = .int .i64 i ∧ ∃ L1, Aside0 (MapE wr w.heap.size (2 * i) L1) ∧ Aside0 (entGo a1 (l0.drop i) i L1 = some L) ∧ Aside0 (Below w.heap.size w wr) ∧ Aside0 (w.heap.size < wr.heap.size)) (fun v _ => l0.length - (intOf v).toNat)
 case atStart => exact ⟨0, Nat.zero_le _, rfl, [], ⟨HM.out⟩, ⟨HL.out⟩, ⟨by exact (Below.refl _ _).alloc (Nat.le_refl _) _⟩, ⟨by simp⟩⟩
 case round =>
  clear HM HL HB
  obtain ⟨i, hi, rfl, L1, HM, HG, HB, HS⟩ := hrel
  by_cases hlt : i < l0.length
  rotate_left
  ·obtain rfl : i = l0.length := by omega
   have hL : L1 = L := by have := HG.out; rw [List.drop_length] at this; exact Option.some.inj this
   have M1 := Aside0.mk (show MapE wr w.heap.size (2 * l0.length) L from by rw [← hL]; exact HM.out)
   clear hL HM HG
   go_wp2
   go_ret
   exact ⟨_, _, rfl, M1.out, HB.out⟩
  obtain ⟨ad, hA, h0, h1, h2⟩ := at_T29 HR.out (i : Int) (by omega) (by omega)
  subst hA
  rw [Int.toNat_natCast] at h0 h1 h2
  replace h0 := pw_cell_below HB.out h0
  replace h1 := pw_cell_below HB.out h1
  replace h2 := pw_cell_below HB.out h2
  have hdrop : l0.drop i = rd_T29 l0 i :: l0.drop (i + 1) := by
   rw [List.drop_eq_getElem_cons hlt]; simp [rd_T29, hlt]
  have HG2 := HG.out
  rw [hdrop] at HG2
  simp only [entGo] at HG2
  obtain ⟨L2, hst, hgo⟩ := Option.bind_eq_some_iff.mp HG2
  clear HG HG2
  unfold entStep at hst
  generalize rd_T29 l0 i = c at *
  split at hst
  case isFalse => cases hst
  rename_i hsz
  obtain ⟨L3, hst3, hst4⟩ := Option.bind_eq_some_iff.mp hst
  clear hst
  by_cases h3 : a1 = 3
  ·have h3b : (a1 != 3) = false := by simpa using h3
   have h1b : (a1 != 1) = true := by rw [h3]; rfl
   rw [if_neg (by simpa using h3)] at hst3
   obtain rfl := Option.some.inj hst3
   have hst5 := Option.some.inj hst4
   rw [if_pos (by omega)] at hst5
   have HST5 := Aside0.mk hst5
   have HGO := Aside0.mk hgo
   have HSZ := Aside0.mk hsz
   have hBs := HS.out
   clear hst5 hgo hst3 hst4 h3 hsz hdrop
   obtain ⟨F, hF1, hF2⟩ := HM.out
   have HF2 := Aside0.mk hF2
   clear hF2
   go_wp2_with (first | (at_mapUpdate; refine wpList_update _ rfl _ _ _ 81 rfl 9 84 keyed9 Tryz.underlying81 w.heap.size (2 * i) F rfl (hF1.alloc _) (by unfold maxLen; omega) _ (encE ((i : Int), 8, c.f1)) _ rfl rfl (keyOf_string_mk Tryz.underlying9 (s := c.f1) (by have := HSZ.out.2; unfold maxLen; omega)) ?_; intro w5 hm5 hg5))
   go_roundw
   case rel =>
    have hg5s := hg5.size
    exact ⟨i + 1, by omega, by go_num, L2, ⟨⟨_, hm5.mono (by omega), by rw [← HST5.out]; exact MapE.put HF2.out _ _⟩⟩, HGO, ⟨(HB.out.alloc (by omega) _).grown hg5 (by simp; omega) (fun k e => by cases e; exact Nat.le_refl _)⟩, ⟨by simp at hg5s; omega⟩⟩
   case measure => simp [intOf]; omega
  rw [if_pos h3] at hst3
  obtain ⟨r, hr, hst3⟩ := Option.bind_eq_some_iff.mp hst3
  obtain ⟨z, hz, hst3⟩ := Option.bind_eq_some_iff.mp hst3
  by_cases hcat : c.f1.size + z.size ≤ 9223372036854775807
  case neg => rw [if_neg hcat] at hst3; cases hst3
  rw [if_pos hcat] at hst3
  have hcat2 : (9223372036854775807 < c.f1.size + z.size) = False := eq_false (Nat.not_lt.2 hcat)
  have HST3 := Aside0.mk (Option.some.inj hst3)
  have HST4 := Aside0.mk (Option.some.inj hst4)
  have HGO := Aside0.mk hgo
  have Hr := Aside0.mk hr
  have Hz := Aside0.mk hz
  have HSZ := Aside0.mk hsz
  clear hst3 hst4 hgo hr hz hsz hdrop
  have h3b : (a1 != 3) = true := by simpa using h3
  clear h3
  have HW := Aside0.mk (show ∃ W, W = wr.alloc (.cells #[.string c.f0, .string c.f1, .int .i64 c.f2] 29) from ⟨_, rfl⟩)
  go_upto_region 6 with (fail)
  obtain ⟨W, hW⟩ := HW.out
  clear HW
  have k0 : W.cell? ⟨wr.heap.size, 0, none⟩ = some (.string c.f0) := by rw [hW]; go_simp
  have k1 : W.cell? ⟨wr.heap.size, 1, none⟩ = some (.string c.f1) := by rw [hW]; go_simp
  have k2 : W.cell? ⟨wr.heap.size, 2, none⟩ = some (.int .i64 c.f2) := by rw [hW]; go_simp
  have hBW : Below wr.heap.size wr W := by rw [hW]; exact (Below.refl _ _).alloc (Nat.le_refl _) _
  have hSW : W.heap.size = wr.heap.size + 1 := by rw [hW]; simp
  rw [← hW]
  clear h0 h1 h2 hW
  have hBW := Aside0.mk hBW
  have hSW := Aside0.mk hSW
  go_region_held3 (fun w' => w'.cell? ⟨wr.heap.size, 0, none⟩ = some (.string c.f0) ∧ w'.cell? ⟨wr.heap.size, 1, none⟩ = some (.string c.f1) ∧ w'.cell? ⟨wr.heap.size, 2, none⟩ = some (.int .i64 c.f2))
   (first | go_keep | (go_split_ands; refine ⟨?_, ?_, ?_⟩ <;> (apply pw_cell_below hb2.out; assumption)) | (go_split_ands; have hb2s := hb2.out.size; simp at hb2s; have hSs := hSW.out; have hBs := HS.out; refine ⟨?_, ?_, ?_⟩ <;> (rw [hg4.cell_far _ (by simp; omega) (by simp; omega)]; apply pw_cell_below hb2.out; assumption)))
   (first
    | (go_simp; go_at_call 39; refine (plan_room.calls _ _ _ r _ Hr.out).mono ?_; rintro e w2 ⟨rfl, hb2'⟩; have hb2 := Aside0.mk hb2'; clear hb2')
    | (go_simp; go_at_call 61; rw [i64_w, i64_w]; refine (strings_Repeat.calls _ _ z _ Hz.out).mono ?_; rintro e w3 ⟨rfl, hb3'⟩; have hb2 := Aside0.mk (below_then hb2.out hb2.out.size hb3'); clear hb3')
    | (go_simp; obtain ⟨F, hF1, hF2⟩ := ((HM.out.below hBW.out).drew).below hb2.out; obtain ⟨w4, hrun, hm4, hg4⟩ := MapV.update hF1 keyed9 Tryz.underlying81 (by unfold maxLen; omega) (encE ((i : Int), c.f2, c.f1 ++ z)) (keyOf_string_mk Tryz.underlying9 (s := c.f0) (by have := HSZ.out.1; unfold maxLen; omega)); have hrun2 := hrun; unfold encE at hrun2; rw [hrun2]; simp only [Result.andThen, Oper.upon_skip, Act.put]))
  have M4 := Aside0.mk (show MapE w4 w.heap.size (2 * i + 1) L3 from by rw [← HST3.out]; exact ⟨_, hm4, MapE.put hF2 _ _⟩)
  have hb2s := hb2.out.size
  simp at hb2s
  have hSs := hSW.out
  have hBs := HS.out
  have hg4s := hg4.size
  have q1 : w4.cell? ⟨wr.heap.size, 1, none⟩ = some (.string c.f1) := by
   rw [hg4.cell_far _ (by simp; omega) (by simp; omega)]; exact pw_cell_below hb2.out k1
  have B4 := Aside0.mk (show Below w.heap.size w w4 from (((HB.out.trans (hBW.out.mono (by omega))).drew).trans (hb2.out.mono (by simp; omega))).grown hg4 (by omega) (fun k e => by cases e; exact Nat.le_refl _))
  have S4 := Aside0.mk (show w.heap.size < w4.heap.size by omega)
  clear hm4 hF1 hF2 hrun hrun2 hb2 hb2s hg4s hg4 k0 k1 k2 hBW hSW HST3 Hr Hz hSs hBs hcat hcat2 HM HB hst3
  by_cases h1 : a1 = 1
  ·have h1b : (a1 != 1) = false := by simpa using h1
   have HST5 := Aside0.mk (show L3 = L2 from by have := HST4.out; rw [if_neg (by simpa using h1)] at this; exact this)
   clear h1 HST4
   go_wp2
   go_roundw
   case rel => exact ⟨i + 1, by omega, by go_num, L2, ⟨by obtain ⟨F, h, s⟩ := M4.out; exact ⟨F, h.mono (by omega), by rw [← HST5.out]; exact s⟩⟩, HGO, B4, S4⟩
   case measure => simp [intOf]; omega
  have h1b : (a1 != 1) = true := by simpa using h1
  have HST5 := Aside0.mk (show (c.f1, ((i : Int), 8, c.f1)) :: L3 = L2 from by have := HST4.out; rw [if_pos (by simpa using h1)] at this; exact this)
  clear h1 HST4
  obtain ⟨F, hF1, hF2⟩ := M4.out
  have HF2 := Aside0.mk hF2
  clear hF2
  go_wp2_with (first | (at_mapUpdate; refine wpList_update _ rfl _ _ _ 81 rfl 9 84 keyed9 Tryz.underlying81 w.heap.size (2 * i + 1) F rfl hF1 (by unfold maxLen; omega) _ (encE ((i : Int), 8, c.f1)) _ rfl rfl (keyOf_string_mk Tryz.underlying9 (s := c.f1) (by have := HSZ.out.2; unfold maxLen; omega)) ?_; intro w5 hm5 hg5))
  go_roundw
  case rel =>
   have hg5s := hg5.size
   have S4s := S4.out
   exact ⟨i + 1, by omega, by go_num, L2, ⟨⟨_, hm5.mono (by omega), by rw [← HST5.out]; exact MapE.put HF2.out _ _⟩⟩, HGO, ⟨B4.out.grown hg5 (by omega) (fun k e => by cases e; exact Nat.le_refl _)⟩, ⟨by omega⟩⟩
  case measure => simp [intOf]; omega
def readLoop (L : List (ByteArray × Ent)) (d : ByteArray) : Nat → Nat → Option (Option (Int × Int × Int × Int))
 | 0, _ => some none
 | m + 1, k => match lookE L (d.extract 0 k) with
  | none => readLoop L d m (k + 1)
  | some x => if (d.size : Int) < x.2.1 then some (some (1, 0, 0, 0)) else
   if (k : Int) ≤ x.2.1 ∧ x.2.1 ≤ (d.size : Int) ∧ x.2.2.size + (d.extract k x.2.1.toNat).size ≤ 9223372036854775807 then
    (strconv_Atoi.f (x.2.2 ++ d.extract k x.2.1.toNat)).bind fun n => some (some (2, n.1, x.1, x.2.1)) else none
def readEnd (L : List (ByteArray × Ent)) (d : ByteArray) : Option (Int × Int × Int × Int) → Int × Int × Int × Int × Int
 | some r => (r.1, r.2.1, r.2.2.1, r.2.2.2, 0)
 | none => if L.any (fun p => Lib.hasPrefix p.1.data.toList d.data.toList) = true then (1, 0, 0, 0, 0) else (0, 0, 0, 0, 0)
def plan_ReadRest (l0 : List S29) (a1 : ByteArray) (a2 : Int) : Option (Int × Int × Int × Int × Int) :=
 if l0.length ≤ 1000 ∧ a1.size ≤ 1000 then
  (entGo a2 l0 0 []).bind fun L => (readLoop L a1 (a1.size + 1) 0).bind fun o => some (readEnd L a1 o)
 else none
def plan_Read.f (k : Nat) (l0 : List S29) (a1 : ByteArray) (a2 : Int) : Option (Int × Int × Int × Int × Int) :=
 (plan_Valid.f k l0).bind fun v => if v = true then (plan_isDigits.f a1).bind fun d => if d = true then
  (if 16 < (a1.size : Int) then some (0, 0, 0, 0, 120) else (plan_isPhase.f a2).bind fun p => if p = true then plan_ReadRest l0 a1 a2 else some (0, 0, 0, 0, 120))
  else some (0, 0, 0, 0, 120) else some (0, 0, 0, 0, 120)
theorem plan_Read.mono : ∀ a0 a1 a2 k, LeO (plan_Read.f k a0 a1 a2) (plan_Read.f (k + 1) a0 a1 a2) := by
 intro a0 a1 a2 k
 unfold plan_Read.f
 refine LeO.bind (plan_Valid.mono _ _) (fun _ => LeO.refl _)
abbrev RB (g : Nat) (w : World) : Prop := w.heap[g]? = some (.cells #[.int .i64 0, .int .i64 0, .int .i64 0, .int .i64 0] 44 (0, 0))
theorem put4 {w : World} {g : Nat} {a b c d a' b' c' d' : Value} {t : TypeId} (h : w.heap[g]? = some (.cells #[a, b, c, d] t (0, 0))) :
 ((((w.setCell ⟨g, 0, none⟩ a').setCell ⟨g, 1, none⟩ b').setCell ⟨g, 2, none⟩ c').setCell ⟨g, 3, none⟩ d').heap[g]? = some (.cells #[a', b', c', d'] t (0, 0)) :=
 blk_put (blk_put (blk_put (blk_put h 0 _ rfl) 1 _ rfl) 2 _ rfl) 3 _ rfl
theorem below4 {w W : World} {g : Nat} (h : Below w.heap.size w W) (hg : w.heap.size ≤ g) (a' b' c' d' : Value) :
 Below w.heap.size w ((((W.setCell ⟨g, 0, none⟩ a').setCell ⟨g, 1, none⟩ b').setCell ⟨g, 2, none⟩ c').setCell ⟨g, 3, none⟩ d') :=
 (((h.setCell hg _).setCell hg _).setCell hg _).setCell hg _
theorem RB.cells {g : Nat} {w : World} (h : RB g w) : (w.cell? ⟨g, 0, none⟩ = some (.int .i64 0) ∧ w.cell? ⟨g, 1, none⟩ = some (.int .i64 0) ∧ w.cell? ⟨g, 2, none⟩ = some (.int .i64 0) ∧ w.cell? ⟨g, 3, none⟩ = some (.int .i64 0)) ∧
 w.frozen? ⟨g, 0, none⟩ = false ∧ w.frozen? ⟨g, 1, none⟩ = false ∧ w.frozen? ⟨g, 2, none⟩ = false ∧ w.frozen? ⟨g, 3, none⟩ = false :=
 ⟨⟨(blk_cell h 0).trans rfl, (blk_cell h 1).trans rfl, (blk_cell h 2).trans rfl, (blk_cell h 3).trans rfl⟩, blk_frozen h 0, blk_frozen h 1, blk_frozen h 2, blk_frozen h 3⟩
theorem invK9 (key : Value) (kl : Lit) (h : keyOf Tryz.prog 9 key = some kl) : ∃ x : ByteArray, key = .string x := by
 obtain ⟨x, hx, _⟩ := Maps.keyOf_str Tryz.underlying9 h
 exact ⟨⟨x.toArray⟩, hx⟩
theorem anyKey_of {L : List (ByteArray × Ent)} {s d : ByteArray} {e : Ent} (h : lookE L s = some e) (hp : Lib.hasPrefix s.data.toList d.data.toList = true) : L.any (fun p => Lib.hasPrefix p.1.data.toList d.data.toList) = true := by
 unfold lookE at h
 obtain ⟨p, hp1, rfl⟩ := Option.map_eq_some_iff.mp h
 have h1 := List.mem_of_find?_eq_some hp1
 have h2 := List.find?_some hp1
 rw [List.any_eq_true]
 exact ⟨p, h1, by rw [of_decide_eq_true h2]; exact hp⟩
theorem anyKey_none {L : List (ByteArray × Ent)} {d : ByteArray} (h : ∀ s e, lookE L s = some e → Lib.hasPrefix s.data.toList d.data.toList = false) : L.any (fun p => Lib.hasPrefix p.1.data.toList d.data.toList) = false := by
 rw [List.any_eq_false]
 intro p hp
 have : ∃ e, lookE L p.1 = some e := by
  unfold lookE
  cases hf : L.find? (fun q => decide (q.1 = p.1)) with
  | none => exact absurd (List.find?_eq_none.1 hf p hp) (by simp)
  | some q => exact ⟨_, rfl⟩
 obtain ⟨e, he⟩ := this
 rw [h _ _ he]
 simp
theorem entStep_keys {ph : Int} {c : S29} {i : Int} {L L' : List (ByteArray × Ent)} (h : entStep ph c i L = some L') (hL : ∀ p ∈ L, p.1.size ≤ 1000) : ∀ p ∈ L', p.1.size ≤ 1000 := by
 unfold entStep at h
 split at h
 case isFalse => cases h
 rename_i hs
 obtain ⟨L1, h1, h2⟩ := Option.bind_eq_some_iff.mp h
 have k1 : ∀ p ∈ L1, p.1.size ≤ 1000 := by
  split at h1
  ·obtain ⟨r, _, h1⟩ := Option.bind_eq_some_iff.mp h1
   obtain ⟨z, _, h1⟩ := Option.bind_eq_some_iff.mp h1
   split at h1
   ·obtain rfl := Option.some.inj h1
    intro p hp
    rcases List.mem_cons.1 hp with rfl | hp
    ·exact hs.1
    ·exact hL p hp
   ·cases h1
  ·obtain rfl := Option.some.inj h1
   exact hL
 obtain rfl := Option.some.inj h2
 split
 ·intro p hp
  rcases List.mem_cons.1 hp with rfl | hp
  ·exact hs.2
  ·exact k1 p hp
 ·exact k1
theorem entGo_keys {ph : Int} : ∀ {cs : List S29} {i : Nat} {L L' : List (ByteArray × Ent)}, entGo ph cs i L = some L' → (∀ p ∈ L, p.1.size ≤ 1000) → ∀ p ∈ L', p.1.size ≤ 1000
 | [], _, L, L', h, hL => by obtain rfl := Option.some.inj h; exact hL
 | c :: cs, i, L, L', h, hL => by
  obtain ⟨L1, h1, h2⟩ := Option.bind_eq_some_iff.mp h
  exact entGo_keys h2 (entStep_keys h1 hL)
theorem lookE_mem {L : List (ByteArray × Ent)} {s : ByteArray} {e : Ent} (h : lookE L s = some e) : ∃ p ∈ L, p.1 = s := by
 unfold lookE at h
 obtain ⟨p, hp1, rfl⟩ := Option.map_eq_some_iff.mp h
 have h3 := List.find?_some hp1
 exact ⟨p, List.mem_of_find?_eq_some hp1, of_decide_eq_true h3⟩
theorem zero84 (w : World) : (zeroValue 84).run Tryz.prog w = .ok (encE (0, 0, ⟨#[]⟩)) w := by kernel_rfl
theorem MapE.at_ {w : World} {b n : Nat} {L : List (ByteArray × Ent)} (h : MapE w b n L) (s : ByteArray) {o : Option Ent} (ho : lookE L s = o) : ∃ F, MapV Tryz.prog 9 w b n F ∧ F (.string s) = o.map encE := by
 obtain ⟨F, h, hF⟩ := h
 exact ⟨F, h, by rw [hF, ho]⟩
theorem MapE.alloc {w : World} {b n : Nat} {L : List (ByteArray × Ent)} (h : MapE w b n L) (o : Obj) : MapE (w.alloc o) b n L := let ⟨F, h, s⟩ := h; ⟨F, h.alloc o, s⟩
set_option maxHeartbeats 4000000 in
set_option maxRecDepth 100000 in
theorem plan_Read.calls (k : Nat) (A0 : Option Addr) (c0 : Nat) (l0 : List (S29)) (a1 : ByteArray) (a2 : Int) (r1 r2 r3 r4 r5 : Int) (w : World) (hr0 : Kd.C k29 w A0 l0.length l0) (hc0 : l0.length ≤ c0) (h : plan_Read.f k l0 a1 a2 = some (r1, r2, r3, r4, r5)) :
 Calls Tryz.prog 21 #[.slice A0 l0.length c0, .string a1, .int .i64 a2] w fun e w' => e = .returned (.tuple #[.agg #[.int .i64 r1, .int .i64 r2, .int .i64 r3, .int .i64 r4], .int .i64 r5]) ∧ Below w.heap.size w w' := by
 have HR0 := Aside0.mk hr0
 have HC0 := Aside0.mk hc0
 have HC4 := Aside0.mk h
 clear hr0 hc0 h
 have HB := Aside0.mk (Below.refl w.heap.size w)
 go_enter Tryz.func21, Tryz.ntmps21
 go_upto_region 1 with (first | ((with_reducible refine gate_dst (N := 6) rfl ?_); refine box_event ?hg (N := 6) ?hd (cs := #[.int .i64 0, .int .i64 0, .int .i64 0, .int .i64 0]) (t := 44) ?hr ?_; (case hd => rfl); (case hg => rfl); (case hr => exact zq3); intro g hg w5 hbox hb; have BK : Aside0 (RB g w5) := Aside0.mk hbox; have GE := Aside0.mk (show w.heap.size ≤ g by rw [hg]; exact Nat.le_refl _); clear HB; have HB := Aside0.mk hb; clear hbox hb hg))
 (try simp only [Act.put, List.setIfInBounds_toArray, List.set_cons_zero, List.set_cons_succ])
 go_cut [32] (fun v wc => ∃ bad : Bool, v = .bool bad ∧ Aside0 ((if bad = true then some (0, 0, 0, 0, 120) else plan_ReadRest l0 a1 a2) = some (r1, r2, r3, r4, r5)) ∧ Aside0 (RB g wc) ∧ Aside0 (Below w.heap.size w wc))
 case first =>
  have H := HC4.out
  clear HC4
  unfold plan_Read.f at H
  obtain ⟨v, hv, H⟩ := Option.bind_eq_some_iff.mp H
  have A1 := Aside0.mk hv
  clear hv
  cases v with
  | false =>
   have HF := Aside0.mk (show (some ((0 : Int), (0 : Int), (0 : Int), (0 : Int), (120 : Int))) = some (r1, r2, r3, r4, r5) from H)
   clear H
   go_wp2_with (first | (go_at_call 25; refine (plan_Valid.calls k _ _ l0 false _ (Kd.C_below HR0.out HB.out) HC0.out A1.out).mono ?_; rintro e w11 ⟨rfl, hb⟩; have BK2 : Aside0 (RB g w11) := Aside0.mk (blk_below BK.out hb); have HB2 := Aside0.mk (below_step HB.out hb); clear hb))
   go_meet
   case rel => exact ⟨true, zq48, ⟨by rw [if_pos rfl]; exact HF.out⟩, BK2, HB2⟩
  | true =>
   replace H : ((plan_isDigits.f a1).bind fun d => if d = true then (if 16 < (a1.size : Int) then some ((0 : Int), (0 : Int), (0 : Int), (0 : Int), (120 : Int)) else (plan_isPhase.f a2).bind fun p => if p = true then plan_ReadRest l0 a1 a2 else some (0, 0, 0, 0, 120)) else some (0, 0, 0, 0, 120)) = some (r1, r2, r3, r4, r5) := H
   obtain ⟨d, hd, H⟩ := Option.bind_eq_some_iff.mp H
   have A2 := Aside0.mk hd
   clear hd
   cases d with
   | false =>
    have HF := Aside0.mk (show (some ((0 : Int), (0 : Int), (0 : Int), (0 : Int), (120 : Int))) = some (r1, r2, r3, r4, r5) from H)
    clear H
    go_wp2_with (first | (go_at_call 25; refine (plan_Valid.calls k _ _ l0 true _ (Kd.C_below HR0.out HB.out) HC0.out A1.out).mono ?_; rintro e w11 ⟨rfl, hb⟩; have BK2 : Aside0 (RB g w11) := Aside0.mk (blk_below BK.out hb); have HB2 := Aside0.mk (below_step HB.out hb); clear hb) | (go_at_call 49; refine (plan_isDigits.calls a1 false _ A2.out).mono ?_; rintro e w12 ⟨rfl, hb⟩; have BK3 : Aside0 (RB g w12) := Aside0.mk (blk_below BK2.out hb); have HB3 := Aside0.mk (below_step HB2.out hb); clear hb))
    go_meet
    case rel => exact ⟨true, zq48, ⟨by rw [if_pos rfl]; exact HF.out⟩, BK3, HB3⟩
   | true =>
    by_cases hs : 16 < (a1.size : Int)
    ·have HF := Aside0.mk (show (some ((0 : Int), (0 : Int), (0 : Int), (0 : Int), (120 : Int))) = some (r1, r2, r3, r4, r5) by rw [if_pos rfl, if_pos hs] at H; exact H)
     clear H
     have hsb : decide (16 < (a1.size : Int)) = true := decide_eq_true hs
     clear hs
     go_wp2_with (first | (go_at_call 25; refine (plan_Valid.calls k _ _ l0 true _ (Kd.C_below HR0.out HB.out) HC0.out A1.out).mono ?_; rintro e w11 ⟨rfl, hb⟩; have BK2 : Aside0 (RB g w11) := Aside0.mk (blk_below BK.out hb); have HB2 := Aside0.mk (below_step HB.out hb); clear hb) | (go_at_call 49; refine (plan_isDigits.calls a1 true _ A2.out).mono ?_; rintro e w12 ⟨rfl, hb⟩; have BK3 : Aside0 (RB g w12) := Aside0.mk (blk_below BK2.out hb); have HB3 := Aside0.mk (below_step HB2.out hb); clear hb))
     go_meet
     case rel => exact ⟨true, zq48, ⟨by rw [if_pos rfl]; exact HF.out⟩, BK3, HB3⟩
    rw [if_pos rfl, if_neg hs] at H
    have hsb : decide (16 < (a1.size : Int)) = false := decide_eq_false hs
    obtain ⟨p, hp, H⟩ := Option.bind_eq_some_iff.mp H
    have A3 := Aside0.mk hp
    clear hs hp
    have HF := Aside0.mk (show (if (!p) = true then some ((0 : Int), (0 : Int), (0 : Int), (0 : Int), (120 : Int)) else plan_ReadRest l0 a1 a2) = some (r1, r2, r3, r4, r5) by cases p <;> simpa using H)
    clear H
    go_wp2_with (first | (go_at_call 25; refine (plan_Valid.calls k _ _ l0 true _ (Kd.C_below HR0.out HB.out) HC0.out A1.out).mono ?_; rintro e w11 ⟨rfl, hb⟩; have BK2 : Aside0 (RB g w11) := Aside0.mk (blk_below BK.out hb); have HB2 := Aside0.mk (below_step HB.out hb); clear hb) | (go_at_call 49; refine (plan_isDigits.calls a1 true _ A2.out).mono ?_; rintro e w12 ⟨rfl, hb⟩; have BK3 : Aside0 (RB g w12) := Aside0.mk (blk_below BK2.out hb); have HB3 := Aside0.mk (below_step HB2.out hb); clear hb) | (go_at_call 35; refine (plan_isPhase.calls a2 p _ A3.out).mono ?_; rintro e w13 ⟨rfl, ⟨nd, rfl⟩⟩))
    go_meet
    case rel => exact ⟨!p, zq48, HF, ⟨blk_drewN BK3.out _⟩, ⟨pw_below_drewN HB3.out _⟩⟩
 case rest =>
  clear HC4
  clear BK HB
  obtain ⟨bad, rfl, HA, BK, HB⟩ := hcut
  cases bad with
  | true =>
   have H : (some ((0 : Int), (0 : Int), (0 : Int), (0 : Int), (120 : Int))) = some (r1, r2, r3, r4, r5) := HA.out
   clear HA
   simp only [Option.some.injEq, Prod.mk.injEq] at H
   obtain ⟨rfl, rfl, rfl, rfl, rfl⟩ := H
   obtain ⟨⟨c0, c1, c2, c3⟩, f0, f1, f2, f3⟩ := RB.cells BK.out
   go_wp2
   refine bodyPost_ret (results_ct rfl _ _ g 44 #[.int .i64 0, .int .i64 0, .int .i64 0, .int .i64 0] (0, 0) _ rfl (put4 BK.out) Tryz.underlying44 rfl (by kernel_rfl)) rfl ?_
   exact ⟨rfl, below4 HB.out GE.out _ _ _ _⟩
  | false =>
   have H : plan_ReadRest l0 a1 a2 = some (r1, r2, r3, r4, r5) := HA.out
   clear HA
   unfold plan_ReadRest at H
   by_cases hsz : l0.length ≤ 1000 ∧ a1.size ≤ 1000
   case neg => rw [if_neg hsz] at H; cases H
   rw [if_pos hsz] at H
   obtain ⟨L, hL, H⟩ := Option.bind_eq_some_iff.mp H
   obtain ⟨o, ho, H⟩ := Option.bind_eq_some_iff.mp H
   have HE := Aside0.mk (Option.some.inj H)
   have HO := Aside0.mk ho
   have HLL := Aside0.mk hL
   obtain ⟨hsz1, hsz2⟩ := hsz
   clear H ho hL
   go_upto_region 4 with (first | (go_at_call 50; refine (plan_entries.calls A0 _ l0 a2 L _ (Kd.C_below HR0.out HB.out) hsz1 HLL.out).mono ?_; rintro e w20 ⟨bm, nm, rfl, hME, hb⟩; have BK2 : Aside0 (RB g w20) := Aside0.mk (blk_below BK.out hb); have HB2 := Aside0.mk (below_step HB.out hb); have HM2 := Aside0.mk hME; clear hb hME))
   clear BK HB
   go_wp2
   go_loopw [40] (fun v wr => ∃ i : Nat, i ≤ a1.size + 1 ∧ v = .int .i64 i ∧ Aside0 (MapE wr bm nm L) ∧ Aside0 (RB g wr) ∧ Aside0 (Below w.heap.size w wr) ∧ Aside0 (readLoop L a1 (a1.size + 1 - i) i = some o)) (fun v _ => a1.size + 1 - (intOf v).toNat)
   case atStart => exact ⟨0, by omega, rfl, HM2, BK2, HB2, ⟨HO.out⟩⟩
   case round =>
    clear HM2 BK2 HB2 HO
    obtain ⟨i, hi, rfl, HM, BK, HB, HG⟩ := hrel
    by_cases hlt : i < a1.size + 1
    rotate_left
    ·obtain rfl : i = a1.size + 1 := by omega
     have hG := HG.out
     rw [Nat.sub_self] at hG
     simp only [readLoop] at hG
     obtain rfl := Option.some.inj hG
     have HE2 := HE.out
     simp only [readEnd] at HE2
     have HE3 := Aside0.mk HE2
     clear hG HG HE HE2 hlt
     obtain ⟨F, hF1, hF2⟩ := HM.out
     have HF2 := Aside0.mk hF2
     clear hF2 HM
     go_wp2_with (first | (at_range; refine wpList_range _ rfl _ 81 rfl 9 84 keyed9 Tryz.underlying81 bm nm F rfl hF1 ?_; intro w30 cnt0 hrg0 hg0 hs0))
     go_frame
     have BK6 : Aside0 (RB g w30) := ⟨(hg0.block g (blk_lt BK.out) (by simp)).trans BK.out⟩
     have HB6 : Aside0 (Below w.heap.size w w30) := ⟨HB.out.grown hg0 HB.out.size (by simp)⟩
     have hgr : g < wr.heap.size := blk_lt BK.out
     have hbr : w.heap.size ≤ wr.heap.size := HB.out.size
     clear BK HB hg0 hs0 hF1
     generalize wr.heap.size = rb at *
     go_loopw [80] (fun _ wc => ∃ (Lf : Value → Bool) (cnt : Nat), RangeV Tryz.prog 9 wc bm rb nm F Lf cnt ∧ Aside0 (RB g wc) ∧ Aside0 (Below w.heap.size w wc) ∧ Aside0 (∀ s e, lookE L s = some e → Lf (.string s) = false → Lib.hasPrefix s.data.toList a1.data.toList = false)) (fun _ wc => wc.rangeLeft bm rb)
     case atStart => exact ⟨_, _, hrg0, BK6, HB6, ⟨fun s e h1 h2 => by rw [HF2.out, h1] at h2; simp at h2⟩⟩
     case round =>
      clear hrg0 BK6 HB6
      obtain ⟨Lf, cnt, hrg, BK, HB, HL⟩ := hrel
      go_wp2_with (first | (at_next; refine wpList_next _ rfl _ rfl 9 keyed9 (fun x : ByteArray => .string x) invK9 bm rb nm F Lf cnt rfl hrg ?_ ?_))
      ·intro hdone
       have hany := anyKey_none (L := L) (d := a1) (fun s e h => by
        obtain ⟨p, hp, rfl⟩ := lookE_mem h
        have hm := entGo_keys HLL.out (by simp) p hp
        exact HL.out _ e h (hdone _ _ (keyOf_string_mk Tryz.underlying9 (by unfold maxLen; omega))))
       have HE4 := HE3.out
       rw [hany, if_neg (by simp)] at HE4
       simp only [Prod.mk.injEq] at HE4
       obtain ⟨rfl, rfl, rfl, rfl, rfl⟩ := HE4
       obtain ⟨⟨c0, c1, c2, c3⟩, f0, f1, f2, f3⟩ := RB.cells BK.out
       clear HE3 hany hdone
       go_wp2
       refine bodyPost_ret (results_ct rfl _ _ g 44 #[.int .i64 0, .int .i64 0, .int .i64 0, .int .i64 0] (0, 0) _ rfl (put4 BK.out) Tryz.underlying44 rfl (by kernel_rfl)) rfl ?_
       exact ⟨rfl, below4 HB.out GE.out _ _ _ _⟩
      ·intro x kl v w31 cnt1 hkey hLx hFx hrg1 hlt1 hg1 hs1 hen
       have hFx2 := HF2.out x
       rw [hFx] at hFx2
       obtain ⟨e, he, hev⟩ := Option.map_eq_some_iff.mp hFx2.symm
       have HLX := Aside0.mk he
       have HKEY := Aside0.mk hkey
       have HEV := Aside0.mk hev
       have BK5 : Aside0 (RB g w31) := ⟨(hg1.block g (blk_lt BK.out) (by simp; omega)).trans BK.out⟩
       have HB5 : Aside0 (Below w.heap.size w w31) := ⟨HB.out.grown hg1 HB.out.size (fun k e => by cases e; exact hbr)⟩
       clear hFx hFx2 he hkey hev hLx
       cases hpx : Lib.hasPrefix x.data.toList a1.data.toList with
       | true =>
        have HE4 := HE3.out
        rw [anyKey_of HLX.out hpx, if_pos rfl] at HE4
        simp only [Prod.mk.injEq] at HE4
        obtain ⟨rfl, rfl, rfl, rfl, rfl⟩ := HE4
        have HPX := Aside0.mk (show strings_HasPrefix.f x a1 = some true by unfold strings_HasPrefix.f; rw [hpx])
        clear hpx HE3
        go_wp2_with (first | (go_at_call 38; refine (strings_HasPrefix.calls x a1 true _ HPX.out).mono ?_; rintro e6 w32 ⟨rfl, hb6⟩; have BK7 : Aside0 (RB g w32) := ⟨blk_below BK5.out hb6⟩; obtain ⟨⟨c0, c1, c2, c3⟩, f0, f1, f2, f3⟩ := RB.cells BK7.out; have HB7 := Aside0.mk (below_step HB5.out hb6); clear hb6))
        refine bodyPost_ret (results_ct rfl _ _ g 44 #[.int .i64 1, .int .i64 0, .int .i64 0, .int .i64 0] (0, 0) _ rfl (put4 BK7.out) Tryz.underlying44 rfl (by kernel_rfl)) rfl ?_
        exact ⟨rfl, below4 HB7.out GE.out _ _ _ _⟩
       | false =>
        have HPX := Aside0.mk (show strings_HasPrefix.f x a1 = some false by unfold strings_HasPrefix.f; rw [hpx])
        have HP2 := Aside0.mk hpx
        have HL1 := Aside0.mk hlt1
        have HRG := Aside0.mk hrg
        clear hpx hlt1 hrg
        go_wp2_with (first | (go_at_call 38; refine (strings_HasPrefix.calls x a1 false _ HPX.out).mono ?_; rintro e6 w32 ⟨rfl, hb6⟩; have BK7 : Aside0 (RB g w32) := ⟨blk_below BK5.out hb6⟩; have HB7 := Aside0.mk (below_step HB5.out hb6); have HR7 := Aside0.mk (hrg1.below hb6); clear hb6))
        go_roundw
        case rel =>
         have hnew : ∀ (s : ByteArray) (e2 : Ent), lookE L s = some e2 → (fun z => Lf z && !@decide (z = Value.string x) (Classical.propDecidable _)) (Value.string s) = false → Lib.hasPrefix s.data.toList a1.data.toList = false := fun s e2 h1 h2 => by
          by_cases hsx : s = x
          ·rw [hsx]; exact HP2.out
          exact HL.out s e2 h1 (by simpa [hsx] using h2)
         refine ⟨_, _, _, _, _, _, _, _, _, _, ⟨_, cnt1, HR7.out, BK7, HB7, ⟨hnew⟩⟩, rfl⟩
        case measure => rw [HR7.out.left_eq, HRG.out.left_eq]; exact HL1.out
    have hlt2 : (i : Int) ≤ (a1.size : Int) := by omega
    have hG := HG.out
    rw [show a1.size + 1 - i = (a1.size + 1 - (i + 1)) + 1 by omega] at hG
    simp only [readLoop] at hG
    clear HG
    have hxs : (a1.extract 0 i).size ≤ maxLen := by simp [ByteArray.size_extract]; unfold maxLen; omega
    cases hlk : lookE L (a1.extract 0 i) with
    | none =>
     rw [hlk] at hG
     have HG := Aside0.mk hG
     obtain ⟨F, hF1, hFs⟩ := HM.out.at_ _ hlk
     have HFs := Aside0.mk hFs
     clear hG hFs hlk
     go_wp2_with (first | (at_lookup; refine wpList_look_ok _ rfl _ _ 81 rfl 9 84 keyed9 Tryz.underlying81 (zero84 _) bm nm F rfl hF1 (.string (a1.extract 0 i)) _ rfl (keyOf_string_mk Tryz.underlying9 hxs) ?_; rw [HFs.out]; simp only [Option.map_none, Option.getD_none, Option.isSome_none, encE]))
     go_roundw
     case rel => exact ⟨i + 1, by omega, by go_num, ⟨HM.out.alloc _⟩, ⟨blk_alloc BK.out _⟩, ⟨below_alloc HB.out _⟩, HG⟩
     case measure => simp [intOf]; omega
    | some x =>
     rw [hlk] at hG
     simp only [] at hG
     obtain ⟨F, hF1, hFs⟩ := HM.out.at_ _ hlk
     have HFs := Aside0.mk hFs
     obtain ⟨x1, x2, x3⟩ := x
     simp only [] at hG
     clear hFs hlk
     by_cases hd : (a1.size : Int) < x2
     ·rw [if_pos hd] at hG
      have hdb : decide ((a1.size : Int) < x2) = true := decide_eq_true hd
      obtain rfl := Option.some.inj hG
      have HE2 : (1, 0, 0, 0, 0) = (r1, r2, r3, r4, r5) := HE.out
      simp only [Prod.mk.injEq] at HE2
      obtain ⟨rfl, rfl, rfl, rfl, rfl⟩ := HE2
      clear hG HE hd
      have BK3 : ∀ o, RB g (wr.alloc o) := fun o => blk_alloc BK.out o
      obtain ⟨⟨c0, c1, c2, c3⟩, f0, f1, f2, f3⟩ := RB.cells (BK3 (.cells #[.int .i64 x1, .int .i64 x2, .string x3] 84))
      go_wp2_with (first | (at_lookup; refine wpList_look_ok _ rfl _ _ 81 rfl 9 84 keyed9 Tryz.underlying81 (zero84 _) bm nm F rfl hF1 (.string (a1.extract 0 i)) _ rfl (keyOf_string_mk Tryz.underlying9 hxs) ?_; rw [HFs.out]; simp only [Option.map_some, Option.getD_some, Option.isSome_some, encE]))
      refine bodyPost_ret (results_ct rfl _ _ g 44 #[.int .i64 1, .int .i64 0, .int .i64 0, .int .i64 0] (0, 0) _ rfl (put4 (BK3 _)) Tryz.underlying44 rfl (by kernel_rfl)) rfl ?_
      exact ⟨rfl, below4 (below_alloc HB.out _) GE.out _ _ _ _⟩
     rw [if_neg hd] at hG
     have hdb : decide ((a1.size : Int) < x2) = false := decide_eq_false hd
     by_cases hk : (i : Int) ≤ x2 ∧ x2 ≤ (a1.size : Int) ∧ x3.size + (a1.extract i x2.toNat).size ≤ 9223372036854775807
     case neg => rw [if_neg hk] at hG; cases hG
     rw [if_pos hk] at hG
     obtain ⟨hk1, hk2, hk3⟩ := hk
     obtain ⟨n, hn, hG⟩ := Option.bind_eq_some_iff.mp hG
     obtain rfl := Option.some.inj hG
     obtain ⟨n1, n2⟩ := n
     have HN := Aside0.mk hn
     have HE2 : (2, n1, x1, x2, 0) = (r1, r2, r3, r4, r5) := HE.out
     simp only [Prod.mk.injEq] at HE2
     obtain ⟨rfl, rfl, rfl, rfl, rfl⟩ := HE2
     have hcat2 : (9223372036854775807 < x3.size + (a1.extract i x2.toNat).size) = False := eq_false (Nat.not_lt.2 hk3)
     have hcat3 := hcat2
     rw [ByteArray.size_extract] at hcat3
     have hcat4 := Nat.not_lt.1 (of_eq_false hcat3)
     have hcat5 := hcat3
     rw [Nat.min_eq_left (by omega : x2.toNat ≤ a1.size)] at hcat5
     clear hG HE hd hn hk3
     have BK3 : Aside0 (RB g (wr.alloc (.cells #[.int .i64 x1, .int .i64 x2, .string x3] 84))) := ⟨blk_alloc BK.out _⟩
     have HW := Aside0.mk (show ∃ W, W = wr.alloc (.cells #[.int .i64 x1, .int .i64 x2, .string x3] 84) from ⟨_, rfl⟩)
     go_upto_region 11 with (first | (at_lookup; refine wpList_look_ok _ rfl _ _ 81 rfl 9 84 keyed9 Tryz.underlying81 (zero84 _) bm nm F rfl hF1 (.string (a1.extract 0 i)) _ rfl (keyOf_string_mk Tryz.underlying9 hxs) ?_; rw [HFs.out]; simp only [Option.map_some, Option.getD_some, Option.isSome_some, encE]))
     obtain ⟨W, hW⟩ := HW.out
     clear HW
     have k0 : W.cell? ⟨wr.heap.size, 0, none⟩ = some (.int .i64 x1) := by rw [hW]; go_simp
     have k1 : W.cell? ⟨wr.heap.size, 1, none⟩ = some (.int .i64 x2) := by rw [hW]; go_simp
     have k2 : W.cell? ⟨wr.heap.size, 2, none⟩ = some (.string x3) := by rw [hW]; go_simp
     have hBW : Below w.heap.size w W := by rw [hW]; exact below_alloc HB.out _
     rw [← hW] at BK3 ⊢
     clear hW
     have hBW := Aside0.mk hBW
     go_region_held3 (fun w' => w'.cell? ⟨wr.heap.size, 0, none⟩ = some (.int .i64 x1) ∧ w'.cell? ⟨wr.heap.size, 1, none⟩ = some (.int .i64 x2) ∧ w'.cell? ⟨wr.heap.size, 2, none⟩ = some (.string x3))
      (first | go_keep | (go_split_ands; refine ⟨?_, ?_, ?_⟩ <;> (apply pw_cell_below hb2.out; assumption)))
      (first
       | (go_simp; go_at_call 45; refine (strconv_Atoi.calls _ n1 n2 _ HN.out).mono ?_; rintro e w2 ⟨rfl, hb2'⟩; have hb2 := Aside0.mk hb2'; clear hb2'))
     have BK4 : Aside0 (RB g w2) := ⟨blk_below (blk_drew BK3.out) hb2.out⟩
     obtain ⟨⟨c0, c1, c2, c3⟩, f0, f1, f2, f3⟩ := RB.cells BK4.out
     replace k0 := pw_cell_below hb2.out k0
     replace k1 := pw_cell_below hb2.out k1
     replace k2 := pw_cell_below hb2.out k2
     have HB4 := Aside0.mk (below_step (below_drew1 hBW.out) hb2.out)
     clear hcat2 hcat3 hcat4 hcat5 hb2 hBW BK3 BK HB HM
     go_wp2
     refine bodyPost_ret (results_ct rfl _ _ g 44 #[.int .i64 2, .int .i64 n1, .int .i64 x1, .int .i64 x2] (0, 0) _ rfl (put4 BK4.out) Tryz.underlying44 rfl (by kernel_rfl)) rfl ?_
     exact ⟨rfl, below4 HB4.out GE.out _ _ _ _⟩
end Go.Proofs.YtlmfoblgheepoaaGreatDoor.Pl
end
section
open Go.Proofs.YtlmfoblgheepoaaGreatDoor.Z
namespace Go.Proofs.YtlmfoblgheepoaaGreatDoor.Pl
open Go.RowKit Go.Proofs.YtlmfoblgheepoaaGreatDoorW.PrintWords Go.Proofs.YtlmfoblgheepoaaGreatDoorW.PrintLast Go.Proofs.YtlmfoblgheepoaaGreatDoorW.PrintMore
attribute [local go_sem] max2_int min2_int max_two min_two max_three min_three max_four min_four
set_option linter.unusedVariables false
set_option linter.unusedSimpArgs false
def readsB (r1 r4 r5 : Int) (s : ByteArray) : Bool := decide (r5 = 0) && decide (r1 = 2) && decide (r4 = (s.size : Int))
set_option maxHeartbeats 4000000 in
set_option maxRecDepth 100000 in
theorem plan_Same_1.calls (k : Nat) (A0 : Option Addr) (c0 : Nat) (l0 : List (S29)) (s : ByteArray) (b : Nat) (r1 r2 r3 r4 r5 : Int) (w : World) (hb : w.cell? ⟨b, 0, none⟩ = some (.slice A0 l0.length c0)) (hr0 : Kd.C k29 w A0 l0.length l0) (hc0 : l0.length ≤ c0) (h : plan_Read.f k l0 s 2 = some (r1, r2, r3, r4, r5)) :
 Calls Tryz.prog 53 #[.string s, .pointer (some ⟨b, 0, none⟩)] w fun e w' => e = .returned (.tuple #[.int .i64 r2, .bool (readsB r1 r4 r5 s)]) ∧ Below w.heap.size w w' := by
 have HR0 := Aside0.mk hr0
 have HC0 := Aside0.mk hc0
 have A1 := Aside0.mk h
 clear hr0 hc0 h
 by_cases e5 : r5 = 0
 rotate_left
 ·have b5 : (r5 == 0) = false := beq_eq_false_iff_ne.mpr e5
  have HV := Aside0.mk (show readsB r1 r4 r5 s = false by simp [readsB, e5])
  clear e5
  go_enter Tryz.func53, Tryz.ntmps53
  go_wp2_with (first | (go_at_call 21; refine (plan_Read.calls k _ _ l0 s 2 r1 r2 r3 r4 r5 _ HR0.out HC0.out A1.out).mono ?_; rintro e w2 ⟨rfl, hb2⟩; have HB2 := Aside0.mk hb2; clear hb2))
  go_quiet (fail)
  go_wp2
  go_ret2
  exact ⟨by (rw [HV.out] <;> rfl), zq49⟩
 have b5 : (r5 == 0) = true := beq_iff_eq.mpr e5
 by_cases e1 : r1 = 2
 rotate_left
 ·have b1 : (r1 == 2) = false := beq_eq_false_iff_ne.mpr e1
  have HV := Aside0.mk (show readsB r1 r4 r5 s = false by simp [readsB, e1])
  clear e5 e1
  go_enter Tryz.func53, Tryz.ntmps53
  go_wp2_with (first | (go_at_call 21; refine (plan_Read.calls k _ _ l0 s 2 r1 r2 r3 r4 r5 _ HR0.out HC0.out A1.out).mono ?_; rintro e w2 ⟨rfl, hb2⟩; have HB2 := Aside0.mk hb2; clear hb2))
  go_quiet (fail)
  go_wp2
  go_ret2
  exact ⟨by (rw [HV.out] <;> rfl), zq49⟩
 have b1 : (r1 == 2) = true := beq_iff_eq.mpr e1
 have HV := Aside0.mk (show readsB r1 r4 r5 s = (r4 == (s.size : Int)) by simp [readsB, e5, e1]; rfl)
 clear e5 e1
 go_enter Tryz.func53, Tryz.ntmps53
 go_wp2_with (first | (go_at_call 21; refine (plan_Read.calls k _ _ l0 s 2 r1 r2 r3 r4 r5 _ HR0.out HC0.out A1.out).mono ?_; rintro e w2 ⟨rfl, hb2⟩; have HB2 := Aside0.mk hb2; clear hb2))
 go_quiet (fail)
 go_wp2
 go_ret2
 exact ⟨by (rw [HV.out] <;> rfl), zq49⟩
def plan_Same.f (k : Nat) (l0 : List S29) (a1 a2 : ByteArray) : Option Bool :=
 (plan_Read.f k l0 a1 2).bind fun x => (plan_Read.f k l0 a2 2).bind fun y =>
  some ((readsB x.1 x.2.2.2.1 x.2.2.2.2 a1 && readsB y.1 y.2.2.2.1 y.2.2.2.2 a2) && decide (x.2.1 = y.2.1))
theorem plan_Same.mono : ∀ a0 a1 a2 k, LeO (plan_Same.f k a0 a1 a2) (plan_Same.f (k + 1) a0 a1 a2) := by
 intro a0 a1 a2 k
 unfold plan_Same.f
 exact LeO.bind (plan_Read.mono _ _ _ _) (fun _ => LeO.bind (plan_Read.mono _ _ _ _) (fun _ => LeO.refl _))
set_option maxHeartbeats 4000000 in
set_option maxRecDepth 100000 in
theorem plan_Same.calls (k : Nat) (A0 : Option Addr) (c0 : Nat) (l0 : List (S29)) (a1 a2 : ByteArray) (r : Bool) (w : World) (hr0 : Kd.C k29 w A0 l0.length l0) (hc0 : l0.length ≤ c0) (h : plan_Same.f k l0 a1 a2 = some r) :
 Calls Tryz.prog 23 #[.slice A0 l0.length c0, .string a1, .string a2] w fun e w' => e = .returned (.bool r) ∧ Below w.heap.size w w' := by
 have HR0 := Aside0.mk hr0
 have HC0 := Aside0.mk hc0
 unfold plan_Same.f at h
 obtain ⟨⟨x1, x2, x3, x4, x5⟩, hx, h⟩ := Option.bind_eq_some_iff.mp h
 obtain ⟨⟨y1, y2, y3, y4, y5⟩, hy, h⟩ := Option.bind_eq_some_iff.mp h
 have A1 := Aside0.mk hx
 have A2 := Aside0.mk hy
 have HR := Aside0.mk (Option.some.inj h)
 clear hr0 hc0 hx hy h
 obtain ⟨u, hu⟩ : ∃ u, readsB x1 x4 x5 a1 = u := ⟨_, rfl⟩
 obtain ⟨v, hv⟩ : ∃ v, readsB y1 y4 y5 a2 = v := ⟨_, rfl⟩
 have HU := Aside0.mk hu
 have HV := Aside0.mk hv
 have hB0 : Below w.heap.size w (w.alloc (.cells #[.slice A0 l0.length c0] 24)) := below_alloc (Below.refl _ _) _
 have HB0 := Aside0.mk hB0
 have HC1 := Aside0.mk (show (w.alloc (.cells #[.slice A0 l0.length c0] 24)).cell? ⟨w.heap.size, 0, none⟩ = some (.slice A0 l0.length c0) by go_simp)
 clear hu hv hB0
 have H1 := fun (W : World) (hB : Below w.heap.size w W) (hc : W.cell? ⟨w.heap.size, 0, none⟩ = some (.slice A0 l0.length c0)) => plan_Same_1.calls k A0 c0 l0 a1 w.heap.size x1 x2 x3 x4 x5 W hc (Kd.C_below HR0.out hB) HC0.out A1.out
 have H2 := fun (W : World) (hB : Below w.heap.size w W) (hc : W.cell? ⟨w.heap.size, 0, none⟩ = some (.slice A0 l0.length c0)) => plan_Same_1.calls k A0 c0 l0 a2 w.heap.size y1 y2 y3 y4 y5 W hc (Kd.C_below HR0.out hB) HC0.out A2.out
 have HH1 := Aside0.mk H1
 have HH2 := Aside0.mk H2
 clear H1 H2
 go_enter Tryz.func23, Tryz.ntmps23
 go_wp2_with fail
 refine (HH1.out _ HB0.out HC1.out).mono ?_
 rintro e w2 ⟨rfl, hb2⟩
 rw [HU.out]
 have HB2 := Aside0.mk (below_step HB0.out hb2)
 have HC2 := Aside0.mk (pw_cell_below hb2 HC1.out)
 clear hb2
 go_wp2_with fail
 refine (HH2.out _ HB2.out HC2.out).mono ?_
 rintro e w3 ⟨rfl, hb3⟩
 rw [HV.out]
 have HB3 := Aside0.mk (below_step HB2.out hb3)
 clear hb3
 have HR3 := HR.out
 simp only [HU.out, HV.out] at HR3
 clear HR HU HV
 cases u <;> cases v
 all_goals
  go_wp2
  go_ret
  exact ⟨by rw [← HR3]; first | rfl | (simp; done) | (simp; rfl), HB3.out⟩
end Go.Proofs.YtlmfoblgheepoaaGreatDoor.Pl
end
section
open Go.Proofs.YtlmfoblgheepoaaGreatDoor.Z
namespace Go.Proofs.YtlmfoblgheepoaaGreatDoor.Pl
open Go.RowKit Go.Proofs.YtlmfoblgheepoaaGreatDoorW.PrintWords Go.Proofs.YtlmfoblgheepoaaGreatDoorW.PrintLast Go.Proofs.YtlmfoblgheepoaaGreatDoorW.PrintMore
attribute [local go_sem] max2_int min2_int max_two min_two max_three min_three max_four min_four
set_option linter.unusedVariables false
set_option linter.unusedSimpArgs false
attribute [local go_sem high] eqA44
def dialtonelaw12_example.f  : Option ((List (S29))) := some (([(⟨(⟨#[50]⟩ : ByteArray), (⟨#[56, 50]⟩ : ByteArray), 5⟩ : S29), (⟨(⟨#[51, 49]⟩ : ByteArray), (⟨#[57]⟩ : ByteArray), 5⟩ : S29)] : List (S29)))
set_option maxHeartbeats 8000000 in
set_option maxRecDepth 100000 in
theorem dialtonelaw12_example.calls  (r : List (S29)) (w : World) (h : dialtonelaw12_example.f  = some r) :
 Calls Tryz.prog 30 #[] w fun e w' => ∃ v0_ : Value, e = .returned (v0_) ∧ Kd.R k29 29 w' w.heap.size (fun _ => True) v0_ r ∧ Below w.heap.size w w' := by
 have hu29 := Tryz.underlying29
 have HB := Aside0.mk (Below.refl w.heap.size w)
 have H : (some (([(⟨(⟨#[50]⟩ : ByteArray), (⟨#[56, 50]⟩ : ByteArray), 5⟩ : S29), (⟨(⟨#[51, 49]⟩ : ByteArray), (⟨#[57]⟩ : ByteArray), 5⟩ : S29)] : List (S29)))) = some r := h
 clear h
 obtain ⟨y154, hy154⟩ : ∃ y_ : List (S29), y_ = (([(⟨(⟨#[50]⟩ : ByteArray), (⟨#[56, 50]⟩ : ByteArray), 5⟩ : S29), (⟨(⟨#[51, 49]⟩ : ByteArray), (⟨#[57]⟩ : ByteArray), 5⟩ : S29)] : List (S29))) := ⟨_, rfl⟩
 replace H : (some y154) = some r := by first | (rw [hy154]; with_reducible exact H) | (have H2_ := (Option.bind_some _ _).symm.trans H; rw [hy154]; with_reducible exact H2_) | (have H2_ := (Option.bind_some _ _).symm.trans H; with_reducible exact H2_) | with_reducible exact H | (rw [hy154]; exact H) | exact H
 have Ny154 := Aside0.mk hy154
 clear hy154
 obtain rfl := Option.some.inj H
 go_enter Tryz.func30, Tryz.ntmps30
 go_wp2_with (first | ((with_reducible refine gate_dst (N := 3) rfl ?_); refine Kd.R_lit k29 _ 29 ?hg (N := 3) ?hd (xs := ([(⟨(⟨#[50]⟩ : ByteArray), (⟨#[56, 50]⟩ : ByteArray), 5⟩ : S29), (⟨(⟨#[51, 49]⟩ : ByteArray), (⟨#[57]⟩ : ByteArray), 5⟩ : S29)] : List (S29))) (inner := [.string (⟨#[50]⟩ : ByteArray), .string (⟨#[56, 50]⟩ : ByteArray), .int .i64 5, .string (⟨#[51, 49]⟩ : ByteArray), .string (⟨#[57]⟩ : ByteArray), .int .i64 5]) (ok := fun _ => True) (okp := fun _ => True) ?hr ?hp (fun _ hk => hk) trivial (Below.refl _ _) (Nat.le_refl _) (by simp) ?_; (case hd => rfl); (case hg => rfl); (case hr => exact zq3); (case hp => exact (Reps.c3 (show Kd.M k29 _ _ _ (⟨(⟨#[50]⟩ : ByteArray), (⟨#[56, 50]⟩ : ByteArray), 5⟩ : S29) [.string (⟨#[50]⟩ : ByteArray), .string (⟨#[56, 50]⟩ : ByteArray), .int .i64 5] from (k29_mkM _ _ _ (⟨(⟨#[50]⟩ : ByteArray), (⟨#[56, 50]⟩ : ByteArray), 5⟩ : S29) )) (Reps.c3 (show Kd.M k29 _ _ _ (⟨(⟨#[51, 49]⟩ : ByteArray), (⟨#[57]⟩ : ByteArray), 5⟩ : S29) [.string (⟨#[51, 49]⟩ : ByteArray), .string (⟨#[57]⟩ : ByteArray), .int .i64 5] from (k29_mkM _ _ _ (⟨(⟨#[51, 49]⟩ : ByteArray), (⟨#[57]⟩ : ByteArray), 5⟩ : S29) )) (Reps.none _ _)))); intro v155 w1 ho2 hb hg_ hnew_; clear hg_ hnew_; (first | rw [← Ny154.out] at ho2 | (simp only [Int.reduceToNat] at ho2; rw [← Ny154.out] at ho2)); have HO156 := Aside0.mk (Kd.R_lower ho2 (below_size (zq5))); replace HB := Aside0.mk (below_step (zq5) hb); clear hb ho2))
 go_ret
 exact ⟨_, zq6, by (with_reducible repeat (first | apply Kd.R_alloc | apply Kd.R_drewN | apply Kd.R_drew)); exact HO156.out, zq5⟩
def dialtonelaw12_reads.f (k : Nat) (a0 : ByteArray) (a1 : Int) (a2 : Int) (a3 : Int) : Option (Bool) := (dialtonelaw12_example.f).bind fun t157 => ((plan_Read.f k t157 a0 2).bind fun bt160 => (if bt160.2.2.2.2 = 0 then (some (bt160.1 == 2 && (bt160.2.1 == a1 && (bt160.2.2.1 == a2 && (bt160.2.2.2.1 == a3))))) else (some false)))
theorem dialtonelaw12_reads.mono : ∀ a0 a1 a2 a3 k, LeO (dialtonelaw12_reads.f k a0 a1 a2 a3) (dialtonelaw12_reads.f (k + 1) a0 a1 a2 a3) := by
 intro a0 a1 a2 a3 k
 unfold dialtonelaw12_reads.f
 repeat' first
  | (with_reducible exact plan_Read.mono _ _ _ _)
  | (with_reducible exact LeO.refl _)
  | (with_reducible exact LeO.none _)
  | (with_reducible refine LeO.ite ?_ ?_)
  | (with_reducible refine LeO.bind ?_ (fun _ => ?_))
  | exact plan_Read.mono _ _ _ _
  | exact LeO.none _
  | refine LeO.ite ?_ ?_
  | refine LeO.bind ?_ (fun _ => ?_)
set_option maxHeartbeats 8000000 in
set_option maxRecDepth 100000 in
theorem dialtonelaw12_reads.calls (k : Nat) (a0 : ByteArray) (a1 : Int) (a2 : Int) (a3 : Int) (r : Bool) (w : World) (h : dialtonelaw12_reads.f k a0 a1 a2 a3 = some r) :
 Calls Tryz.prog 31 #[.string a0, .int .i64 a1, .int .i64 a2, .int .i64 a3] w fun e w' => e = .returned (.bool r) ∧ Below w.heap.size w w' := by
 have hu44 := Tryz.underlying44
 have HB := Aside0.mk (Below.refl w.heap.size w)
 have H : ((dialtonelaw12_example.f).bind fun t157 => ((plan_Read.f k t157 a0 2).bind fun bt160 => (if bt160.2.2.2.2 = 0 then (some (bt160.1 == 2 && (bt160.2.1 == a1 && (bt160.2.2.1 == a2 && (bt160.2.2.2.1 == a3))))) else (some false)))) = some r := h
 clear h
 replace H := Option.bind_eq_some_iff.mp H
 obtain ⟨t157, A50, H⟩ := H
 try dsimp only at H
 have A5 := Aside0.mk A50
 clear A50
 replace H := Option.bind_eq_some_iff.mp H
 obtain ⟨⟨t160, t161, t162, t163, t164⟩, A60, H⟩ := H
 try dsimp only at H
 have A6 := Aside0.mk A60
 clear A60
 by_cases c7 : t164 = 0
 rotate_left
 ·rw [if_neg c7] at H
  have c7b0 : (t164 == 0) = false := beq_eq_false_iff_ne.mpr c7
  have c7b1 : (t164 != 0) = true := bne_iff_ne.mpr c7
  obtain rfl := Option.some.inj H
  go_enter Tryz.func31, Tryz.ntmps31
  go_wp2_with (first | ((with_reducible refine gate_callee (f := 30) rfl ?_); refine goesL_ (some 12) rfl rfl Tryz.func30 (by kernel_rfl) rfl #[] rfl (zq7) ?_; (with_reducible refine (dialtonelaw12_example.calls  t157 _ A5.out).mono ?_); rintro e w13 ⟨v158, rfl, ho0, hb⟩; refine ⟨_, rfl, ?_⟩; have HO159 := Aside0.mk (Kd.R_lower ho0 (below_size (zq5))); replace HB := Aside0.mk (below_step (zq5) hb); (try clear hb); (try clear hb2); (try clear hk); (try clear hi); (try clear ho0); obtain ⟨Ao14, co14, eo14⟩ := Kd.R_slice HO159.out; subst eo14) | ((with_reducible refine gate_callee (f := 21) rfl ?_); refine goesL_ (some 14) rfl rfl Tryz.func21 (by kernel_rfl) rfl #[.slice Ao14 t157.length co14, .string a0, .int .i64 2] rfl (zq7) ?_; (with_reducible refine (plan_Read.calls k _ _ t157 a0 2 t160 t161 t162 t163 t164 _ ?side1 ?side2 A6.out).mono ?_); (case side1 => exact zq50); (case side2 => exact (Kd.R_reads' HO159.out).2.1); rintro e w15 ⟨rfl, hb⟩; refine ⟨_, rfl, ?_⟩; replace HO159 := Aside0.mk (Kd.R_below (zq51) hb); replace HB := Aside0.mk (below_step (zq5) hb); (try clear hb); (try clear hb2); (try clear hk); (try clear hi)) | ((with_reducible refine gate_dst (N := 9) rfl ?_); refine box_event ?hg (N := 9) ?hd (cs := #[.int .i64 0, .int .i64 0, .int .i64 0, .int .i64 0]) (t := 44) ?hr ?_; (case hd => rfl); (case hg => rfl); (case hr => exact zq3); intro gb165 hg w16 hbox hb; replace HO159 := Aside0.mk (Kd.R_below (zq51) hb); have BK165 := Aside0.mk (hbox); have GW165 := Aside0.mk ((zq4 : w.heap.size ≤ gb165)); have GE165 := Aside0.mk ((zq4 : w.heap.size ≤ gb165)); replace HB := Aside0.mk (below_step (zq5) hb); clear hb hbox hg; have hcz17_0 : w16.cell? ⟨gb165, 0, none⟩ = some (.int .i64 0) := (blk_cell BK165.out 0).trans rfl; have hcz17_1 : w16.cell? ⟨gb165, 1, none⟩ = some (.int .i64 0) := (blk_cell BK165.out 1).trans rfl; have hcz17_2 : w16.cell? ⟨gb165, 2, none⟩ = some (.int .i64 0) := (blk_cell BK165.out 2).trans rfl; have hcz17_3 : w16.cell? ⟨gb165, 3, none⟩ = some (.int .i64 0) := (blk_cell BK165.out 3).trans rfl; have hfz17_0 := blk_frozen BK165.out 0; have hfz17_1 := blk_frozen BK165.out 1; have hfz17_2 := blk_frozen BK165.out 2; have hfz17_3 := blk_frozen BK165.out 3))
  go_ret
  exact ⟨zq6, zq52⟩
 rw [if_pos c7] at H
 have c7b0 : (t164 == 0) = true := beq_iff_eq.mpr c7
 have c7b1 : (t164 != 0) = false := bne_eq_false_iff_eq.mpr c7
 clear c7
 obtain rfl := Option.some.inj H
 go_enter Tryz.func31, Tryz.ntmps31
 go_wp2_with (first | ((with_reducible refine gate_callee (f := 30) rfl ?_); refine goesL_ (some 12) rfl rfl Tryz.func30 (by kernel_rfl) rfl #[] rfl (zq7) ?_; (with_reducible refine (dialtonelaw12_example.calls  t157 _ A5.out).mono ?_); rintro e w8 ⟨v158, rfl, ho0, hb⟩; refine ⟨_, rfl, ?_⟩; have HO159 := Aside0.mk (Kd.R_lower ho0 (below_size (zq5))); replace HB := Aside0.mk (below_step (zq5) hb); (try clear hb); (try clear hb2); (try clear hk); (try clear hi); (try clear ho0); obtain ⟨Ao9, co9, eo9⟩ := Kd.R_slice HO159.out; subst eo9) | ((with_reducible refine gate_callee (f := 21) rfl ?_); refine goesL_ (some 14) rfl rfl Tryz.func21 (by kernel_rfl) rfl #[.slice Ao9 t157.length co9, .string a0, .int .i64 2] rfl (zq7) ?_; (with_reducible refine (plan_Read.calls k _ _ t157 a0 2 t160 t161 t162 t163 t164 _ ?side1 ?side2 A6.out).mono ?_); (case side1 => exact zq50); (case side2 => exact (Kd.R_reads' HO159.out).2.1); rintro e w10 ⟨rfl, hb⟩; refine ⟨_, rfl, ?_⟩; replace HO159 := Aside0.mk (Kd.R_below (zq51) hb); replace HB := Aside0.mk (below_step (zq5) hb); (try clear hb); (try clear hb2); (try clear hk); (try clear hi)) | ((with_reducible refine gate_dst (N := 9) rfl ?_); refine box_event ?hg (N := 9) ?hd (cs := #[.int .i64 0, .int .i64 0, .int .i64 0, .int .i64 0]) (t := 44) ?hr ?_; (case hd => rfl); (case hg => rfl); (case hr => exact zq3); intro gb165 hg w11 hbox hb; replace HO159 := Aside0.mk (Kd.R_below (zq51) hb); have BK165 := Aside0.mk (hbox); have GW165 := Aside0.mk ((zq4 : w.heap.size ≤ gb165)); have GE165 := Aside0.mk ((zq4 : w.heap.size ≤ gb165)); replace HB := Aside0.mk (below_step (zq5) hb); clear hb hbox hg; have hcz12_0 : w11.cell? ⟨gb165, 0, none⟩ = some (.int .i64 0) := (blk_cell BK165.out 0).trans rfl; have hcz12_1 : w11.cell? ⟨gb165, 1, none⟩ = some (.int .i64 0) := (blk_cell BK165.out 1).trans rfl; have hcz12_2 : w11.cell? ⟨gb165, 2, none⟩ = some (.int .i64 0) := (blk_cell BK165.out 2).trans rfl; have hcz12_3 : w11.cell? ⟨gb165, 3, none⟩ = some (.int .i64 0) := (blk_cell BK165.out 3).trans rfl; have hfz12_0 := blk_frozen BK165.out 0; have hfz12_1 := blk_frozen BK165.out 1; have hfz12_2 := blk_frozen BK165.out 2; have hfz12_3 := blk_frozen BK165.out 3))
 go_ret
 exact ⟨zq6, zq52⟩
def dialtonelaw12_kind.f (k : Nat) (a0 : ByteArray) (a1 : Int) : Option (Int) := (dialtonelaw12_example.f).bind fun t166 => ((plan_Read.f k t166 a0 a1).bind fun bt169 => (if bt169.2.2.2.2 = 0 then (some bt169.1) else (some (-1))))
theorem dialtonelaw12_kind.mono : ∀ a0 a1 k, LeO (dialtonelaw12_kind.f k a0 a1) (dialtonelaw12_kind.f (k + 1) a0 a1) := by
 intro a0 a1 k
 unfold dialtonelaw12_kind.f
 repeat' first
  | (with_reducible exact plan_Read.mono _ _ _ _)
  | (with_reducible exact LeO.refl _)
  | (with_reducible exact LeO.none _)
  | (with_reducible refine LeO.ite ?_ ?_)
  | (with_reducible refine LeO.bind ?_ (fun _ => ?_))
  | exact plan_Read.mono _ _ _ _
  | exact LeO.none _
  | refine LeO.ite ?_ ?_
  | refine LeO.bind ?_ (fun _ => ?_)
set_option maxHeartbeats 8000000 in
set_option maxRecDepth 100000 in
theorem dialtonelaw12_kind.calls (k : Nat) (a0 : ByteArray) (a1 : Int) (r : Int) (w : World) (h : dialtonelaw12_kind.f k a0 a1 = some r) :
 Calls Tryz.prog 32 #[.string a0, .int .i64 a1] w fun e w' => e = .returned (.int .i64 r) ∧ Below w.heap.size w w' := by
 have hu44 := Tryz.underlying44
 have HB := Aside0.mk (Below.refl w.heap.size w)
 have H : ((dialtonelaw12_example.f).bind fun t166 => ((plan_Read.f k t166 a0 a1).bind fun bt169 => (if bt169.2.2.2.2 = 0 then (some bt169.1) else (some (-1))))) = some r := h
 clear h
 replace H := Option.bind_eq_some_iff.mp H
 obtain ⟨t166, A30, H⟩ := H
 try dsimp only at H
 have A3 := Aside0.mk A30
 clear A30
 replace H := Option.bind_eq_some_iff.mp H
 obtain ⟨⟨t169, t170, t171, t172, t173⟩, A40, H⟩ := H
 try dsimp only at H
 have A4 := Aside0.mk A40
 clear A40
 by_cases c5 : t173 = 0
 ·rw [if_pos c5] at H
  have c5b0 : (t173 == 0) = true := beq_iff_eq.mpr c5
  have c5b1 : (t173 != 0) = false := bne_eq_false_iff_eq.mpr c5
  clear c5
  obtain rfl := Option.some.inj H
  go_enter Tryz.func32, Tryz.ntmps32
  go_wp2_with (first | ((with_reducible refine gate_callee (f := 30) rfl ?_); refine goesL_ (some 8) rfl rfl Tryz.func30 (by kernel_rfl) rfl #[] rfl (zq7) ?_; (with_reducible refine (dialtonelaw12_example.calls  t166 _ A3.out).mono ?_); rintro e w6 ⟨v167, rfl, ho0, hb⟩; refine ⟨_, rfl, ?_⟩; have HO168 := Aside0.mk (Kd.R_lower ho0 (below_size (zq5))); replace HB := Aside0.mk (below_step (zq5) hb); (try clear hb); (try clear hb2); (try clear hk); (try clear hi); (try clear ho0); obtain ⟨Ao7, co7, eo7⟩ := Kd.R_slice HO168.out; subst eo7) | ((with_reducible refine gate_callee (f := 21) rfl ?_); refine goesL_ (some 11) rfl rfl Tryz.func21 (by kernel_rfl) rfl #[.slice Ao7 t166.length co7, .string a0, .int .i64 a1] rfl (zq7) ?_; (with_reducible refine (plan_Read.calls k _ _ t166 a0 a1 t169 t170 t171 t172 t173 _ ?side1 ?side2 A4.out).mono ?_); (case side1 => exact zq53); (case side2 => exact (Kd.R_reads' HO168.out).2.1); rintro e w8 ⟨rfl, hb⟩; refine ⟨_, rfl, ?_⟩; replace HO168 := Aside0.mk (Kd.R_below (zq54) hb); replace HB := Aside0.mk (below_step (zq5) hb); (try clear hb); (try clear hb2); (try clear hk); (try clear hi)) | ((with_reducible refine gate_dst (N := 5) rfl ?_); refine box_event ?hg (N := 5) ?hd (cs := #[.int .i64 0, .int .i64 0, .int .i64 0, .int .i64 0]) (t := 44) ?hr ?_; (case hd => rfl); (case hg => rfl); (case hr => exact zq3); intro gb174 hg w9 hbox hb; replace HO168 := Aside0.mk (Kd.R_below (zq54) hb); have BK174 := Aside0.mk (hbox); have GW174 := Aside0.mk ((zq4 : w.heap.size ≤ gb174)); have GE174 := Aside0.mk ((zq4 : w.heap.size ≤ gb174)); replace HB := Aside0.mk (below_step (zq5) hb); clear hb hbox hg; have hcz10_0 : w9.cell? ⟨gb174, 0, none⟩ = some (.int .i64 0) := (blk_cell BK174.out 0).trans rfl; have hcz10_1 : w9.cell? ⟨gb174, 1, none⟩ = some (.int .i64 0) := (blk_cell BK174.out 1).trans rfl; have hcz10_2 : w9.cell? ⟨gb174, 2, none⟩ = some (.int .i64 0) := (blk_cell BK174.out 2).trans rfl; have hcz10_3 : w9.cell? ⟨gb174, 3, none⟩ = some (.int .i64 0) := (blk_cell BK174.out 3).trans rfl; have hfz10_0 := blk_frozen BK174.out 0; have hfz10_1 := blk_frozen BK174.out 1; have hfz10_2 := blk_frozen BK174.out 2; have hfz10_3 := blk_frozen BK174.out 3))
  go_ret
  exact ⟨zq6, zq55⟩
 rw [if_neg c5] at H
 have c5b0 : (t173 == 0) = false := beq_eq_false_iff_ne.mpr c5
 have c5b1 : (t173 != 0) = true := bne_iff_ne.mpr c5
 obtain rfl := Option.some.inj H
 go_enter Tryz.func32, Tryz.ntmps32
 go_wp2_with (first | ((with_reducible refine gate_callee (f := 30) rfl ?_); refine goesL_ (some 8) rfl rfl Tryz.func30 (by kernel_rfl) rfl #[] rfl (zq7) ?_; (with_reducible refine (dialtonelaw12_example.calls  t166 _ A3.out).mono ?_); rintro e w11 ⟨v167, rfl, ho0, hb⟩; refine ⟨_, rfl, ?_⟩; have HO168 := Aside0.mk (Kd.R_lower ho0 (below_size (zq5))); replace HB := Aside0.mk (below_step (zq5) hb); (try clear hb); (try clear hb2); (try clear hk); (try clear hi); (try clear ho0); obtain ⟨Ao12, co12, eo12⟩ := Kd.R_slice HO168.out; subst eo12) | ((with_reducible refine gate_callee (f := 21) rfl ?_); refine goesL_ (some 11) rfl rfl Tryz.func21 (by kernel_rfl) rfl #[.slice Ao12 t166.length co12, .string a0, .int .i64 a1] rfl (zq7) ?_; (with_reducible refine (plan_Read.calls k _ _ t166 a0 a1 t169 t170 t171 t172 t173 _ ?side1 ?side2 A4.out).mono ?_); (case side1 => exact zq53); (case side2 => exact (Kd.R_reads' HO168.out).2.1); rintro e w13 ⟨rfl, hb⟩; refine ⟨_, rfl, ?_⟩; replace HO168 := Aside0.mk (Kd.R_below (zq54) hb); replace HB := Aside0.mk (below_step (zq5) hb); (try clear hb); (try clear hb2); (try clear hk); (try clear hi)) | ((with_reducible refine gate_dst (N := 5) rfl ?_); refine box_event ?hg (N := 5) ?hd (cs := #[.int .i64 0, .int .i64 0, .int .i64 0, .int .i64 0]) (t := 44) ?hr ?_; (case hd => rfl); (case hg => rfl); (case hr => exact zq3); intro gb174 hg w14 hbox hb; replace HO168 := Aside0.mk (Kd.R_below (zq54) hb); have BK174 := Aside0.mk (hbox); have GW174 := Aside0.mk ((zq4 : w.heap.size ≤ gb174)); have GE174 := Aside0.mk ((zq4 : w.heap.size ≤ gb174)); replace HB := Aside0.mk (below_step (zq5) hb); clear hb hbox hg; have hcz15_0 : w14.cell? ⟨gb174, 0, none⟩ = some (.int .i64 0) := (blk_cell BK174.out 0).trans rfl; have hcz15_1 : w14.cell? ⟨gb174, 1, none⟩ = some (.int .i64 0) := (blk_cell BK174.out 1).trans rfl; have hcz15_2 : w14.cell? ⟨gb174, 2, none⟩ = some (.int .i64 0) := (blk_cell BK174.out 2).trans rfl; have hcz15_3 : w14.cell? ⟨gb174, 3, none⟩ = some (.int .i64 0) := (blk_cell BK174.out 3).trans rfl; have hfz15_0 := blk_frozen BK174.out 0; have hfz15_1 := blk_frozen BK174.out 1; have hfz15_2 := blk_frozen BK174.out 2; have hfz15_3 := blk_frozen BK174.out 3))
 go_ret
 exact ⟨zq6, zq55⟩
end Go.Proofs.YtlmfoblgheepoaaGreatDoor.Pl
end
section
open Go.Proofs.YtlmfoblgheepoaaGreatDoor.Z
namespace Go.Proofs.YtlmfoblgheepoaaGreatDoor.Pl
open Go.RowKit Go.Proofs.YtlmfoblgheepoaaGreatDoorW.PrintWords Go.Proofs.YtlmfoblgheepoaaGreatDoorW.PrintLast Go.Proofs.YtlmfoblgheepoaaGreatDoorW.PrintMore
attribute [local go_sem] max2_int min2_int max_two min_two max_three min_three max_four min_four
set_option linter.unusedVariables false
set_option linter.unusedSimpArgs false
attribute [local go_sem high] eqA40
mutual
def dialtonelaw12_sane.j0 : Nat → List (S29) → ByteArray → ByteArray → Bool → Int → Int → Int → Int → Int → Int → Int → Int → Option (Bool)
 | 0, _, _, _, _, _, _, _, _, _, _, _, _ => none
 | k + 1, x1, x2, x4, x80, x188000, x188001, x192000, x192001, x196000, x196001, x200000, x200001 => if x80 = true then (none) else (if x2.toList = ([50, 49, 50, 51, 52] : List UInt8) then (if x4.toList = ([56, 50, 57, 57, 49, 50, 51, 52] : List UInt8) then ((dialtonelaw12_reads.f k (⟨#[50, 49, 50, 51, 52]⟩ : ByteArray) 82001234 0 5).bind fun t200 => (if t200 = true then ((dialtonelaw12_reads.f k (⟨#[56, 50, 48, 48, 49, 50, 51, 52]⟩ : ByteArray) 82001234 0 8).bind fun t201 => (if t201 = true then ((dialtonelaw12_reads.f k (⟨#[50, 49, 50, 51, 52, 53]⟩ : ByteArray) 82001234 0 5).bind fun t202 => (if t202 = true then ((dialtonelaw12_reads.f k (⟨#[51, 49, 48, 48, 55]⟩ : ByteArray) 90000007 1 5).bind fun t203 => (dialtonelaw12_sane.j1 k x1 t203 x188000 x188001 x192000 x192001 x196000 x196001 x200000 x200001)) else (none))) else (none))) else (none))) else (none)) else (none))
def dialtonelaw12_sane.j1 : Nat → List (S29) → Bool → Int → Int → Int → Int → Int → Int → Int → Int → Option (Bool)
 | 0, _, _, _, _, _, _, _, _, _, _ => none
 | k + 1, x1, x16, x188000, x188001, x192000, x192001, x196000, x196001, x200000, x200001 => (dialtonelaw12_kind.f k (⟨#[56, 50, 48, 48, 49, 50, 51]⟩ : ByteArray) 2).bind fun t204 => (if t204 = 1 then ((dialtonelaw12_kind.f k (⟨#[51]⟩ : ByteArray) 2).bind fun t205 => (if t205 = 1 then ((dialtonelaw12_kind.f k (⟨#[53]⟩ : ByteArray) 2).bind fun t206 => (if t206 = 0 then ((dialtonelaw12_kind.f k (⟨#[]⟩ : ByteArray) 2).bind fun t207 => (if t207 = 1 then ((dialtonelaw12_kind.f k (⟨#[50, 49, 50, 51, 52]⟩ : ByteArray) 3).bind fun t208 => (if t208 = 0 then ((dialtonelaw12_kind.f k (⟨#[56, 50, 48, 48, 49, 50, 51, 52]⟩ : ByteArray) 1).bind fun t209 => (if t209 = 0 then ((dialtonelaw12_kind.f k (⟨#[50, 120]⟩ : ByteArray) 2).bind fun t210 => (dialtonelaw12_sane.j2 k x1 x16 (t210 == (-1)) x188000 x188001 x192000 x192001 x196000 x196001 x200000 x200001)) else (none))) else (none))) else (none))) else (none))) else (none))) else (none))
def dialtonelaw12_sane.j2 : Nat → List (S29) → Bool → Bool → Int → Int → Int → Int → Int → Int → Int → Int → Option (Bool)
 | 0, _, _, _, _, _, _, _, _, _, _, _ => none
 | k + 1, x1, x16, x17, x188000, x188001, x192000, x192001, x196000, x196001, x200000, x200001 => if (x188000 == 82000000 && (x188001 == 82010000)) = true then (if (x192000 == 90000000 && (x192001 == 90001000)) = true then (if (x196000 == 82000000 && (x196001 == 83000000)) = true then (dialtonelaw12_sane.j3 k x1 x16 x17 (x200000 == 90000000 && (x200001 == 100000000))) else (none)) else (none)) else (none)
def dialtonelaw12_sane.j3 : Nat → List (S29) → Bool → Bool → Bool → Option (Bool)
 | 0, _, _, _, _ => none
 | k + 1, x1, x16, x17, x18 => if x16 = true then (if x17 = true then (if x18 = true then ((plan_Same.f k x1 (⟨#[50, 49, 50, 51, 52]⟩ : ByteArray) (⟨#[56, 50, 48, 48, 49, 50, 51, 52]⟩ : ByteArray)).bind fun t211 => (if t211 = true then ((plan_Same.f k x1 (⟨#[50, 49, 50, 51, 52]⟩ : ByteArray) (⟨#[56, 50, 48, 48, 49, 50, 51, 53]⟩ : ByteArray)).bind fun t212 => (if t212 = true then (none) else ((plan_Valid.f k x1).bind fun t213 => (if t213 = true then ((plan_Valid.f k (([(⟨(⟨#[50]⟩ : ByteArray), (⟨#[50, 49]⟩ : ByteArray), 4⟩ : S29)] : List (S29)))).bind fun t217 => (some (!t217))) else (none))))) else (none))) else (none)) else (none)) else (none)
end
def dialtonelaw12_sane.f (k : Nat)  : Option (Bool) := (dialtonelaw12_example.f).bind fun t175 => ((plan_Write.f k t175 82001234 1).bind fun bt178 => ((plan_Write.f k t175 82991234 2).bind fun bt180 => ((plan_Write.f k t175 82991234 1).bind fun bt182 => ((plan_Range.f k t175 0 1).bind fun bt184 => ((plan_Range.f k t175 1 1).bind fun bt188 => ((plan_Range.f k t175 0 3).bind fun bt192 => ((plan_Range.f k t175 1 3).bind fun bt196 => (if bt178.2 = 0 then (if bt180.2 = 0 then (if bt182.2 = 120 then (if bt184.2.2 = 0 then (if bt188.2.2 = 0 then (if bt192.2.2 = 0 then (dialtonelaw12_sane.j0 k t175 bt178.1 bt180.1 (bt196.2.2 != 0) bt184.1 bt184.2.1 bt188.1 bt188.2.1 bt192.1 bt192.2.1 bt196.1 bt196.2.1) else (none)) else (none)) else (none)) else (none)) else (none)) else (none)))))))))
theorem dialtonelaw12_sane.mono_l : ∀ k, (∀ y0 y1 y2 y3 y4 y5 y6 y7 y8 y9 y10 y11, LeO (dialtonelaw12_sane.j0 k y0 y1 y2 y3 y4 y5 y6 y7 y8 y9 y10 y11) (dialtonelaw12_sane.j0 (k + 1) y0 y1 y2 y3 y4 y5 y6 y7 y8 y9 y10 y11)) ∧ (∀ y0 y1 y2 y3 y4 y5 y6 y7 y8 y9, LeO (dialtonelaw12_sane.j1 k y0 y1 y2 y3 y4 y5 y6 y7 y8 y9) (dialtonelaw12_sane.j1 (k + 1) y0 y1 y2 y3 y4 y5 y6 y7 y8 y9)) ∧ (∀ y0 y1 y2 y3 y4 y5 y6 y7 y8 y9 y10, LeO (dialtonelaw12_sane.j2 k y0 y1 y2 y3 y4 y5 y6 y7 y8 y9 y10) (dialtonelaw12_sane.j2 (k + 1) y0 y1 y2 y3 y4 y5 y6 y7 y8 y9 y10)) ∧ (∀ y0 y1 y2 y3, LeO (dialtonelaw12_sane.j3 k y0 y1 y2 y3) (dialtonelaw12_sane.j3 (k + 1) y0 y1 y2 y3))
 | 0 => ⟨fun _ _ _ _ _ _ _ _ _ _ _ _ r h => by simp [dialtonelaw12_sane.j0] at h, fun _ _ _ _ _ _ _ _ _ _ r h => by simp [dialtonelaw12_sane.j1] at h, fun _ _ _ _ _ _ _ _ _ _ _ r h => by simp [dialtonelaw12_sane.j2] at h, fun _ _ _ _ r h => by simp [dialtonelaw12_sane.j3] at h⟩
 | k + 1 => by
  obtain ⟨ih0, ih1, ih2, ih3⟩ := dialtonelaw12_sane.mono_l k
  refine ⟨?_, ?_, ?_, ?_⟩
  ·intro y0 y1 y2 y3 y4 y5 y6 y7 y8 y9 y10 y11
   unfold dialtonelaw12_sane.j0
   repeat' first
   | (with_reducible exact ih0 _ _ _ _ _ _ _ _ _ _ _ _)
   | (with_reducible exact ih1 _ _ _ _ _ _ _ _ _ _)
   | (with_reducible exact ih2 _ _ _ _ _ _ _ _ _ _ _)
   | (with_reducible exact ih3 _ _ _ _)
   | (with_reducible exact dialtonelaw12_kind.mono _ _ _)
   | (with_reducible exact dialtonelaw12_reads.mono _ _ _ _ _)
   | (with_reducible exact plan_Range.mono _ _ _ _)
   | (with_reducible exact plan_Same.mono _ _ _ _)
   | (with_reducible exact plan_Valid.mono _ _)
   | (with_reducible exact plan_Write.mono _ _ _ _)
   | (with_reducible exact LeO.refl _)
   | (with_reducible exact LeO.none _)
   | (with_reducible refine LeO.ite ?_ ?_)
   | (with_reducible refine LeO.bind ?_ (fun _ => ?_))
   | exact ih0 _ _ _ _ _ _ _ _ _ _ _ _
   | exact ih1 _ _ _ _ _ _ _ _ _ _
   | exact ih2 _ _ _ _ _ _ _ _ _ _ _
   | exact ih3 _ _ _ _
   | exact dialtonelaw12_kind.mono _ _ _
   | exact dialtonelaw12_reads.mono _ _ _ _ _
   | exact plan_Range.mono _ _ _ _
   | exact plan_Same.mono _ _ _ _
   | exact plan_Valid.mono _ _
   | exact plan_Write.mono _ _ _ _
   | exact LeO.none _
   | refine LeO.ite ?_ ?_
   | refine LeO.bind ?_ (fun _ => ?_)
  ·intro y0 y1 y2 y3 y4 y5 y6 y7 y8 y9
   unfold dialtonelaw12_sane.j1
   repeat' first
   | (with_reducible exact ih0 _ _ _ _ _ _ _ _ _ _ _ _)
   | (with_reducible exact ih1 _ _ _ _ _ _ _ _ _ _)
   | (with_reducible exact ih2 _ _ _ _ _ _ _ _ _ _ _)
   | (with_reducible exact ih3 _ _ _ _)
   | (with_reducible exact dialtonelaw12_kind.mono _ _ _)
   | (with_reducible exact dialtonelaw12_reads.mono _ _ _ _ _)
   | (with_reducible exact plan_Range.mono _ _ _ _)
   | (with_reducible exact plan_Same.mono _ _ _ _)
   | (with_reducible exact plan_Valid.mono _ _)
   | (with_reducible exact plan_Write.mono _ _ _ _)
   | (with_reducible exact LeO.refl _)
   | (with_reducible exact LeO.none _)
   | (with_reducible refine LeO.ite ?_ ?_)
   | (with_reducible refine LeO.bind ?_ (fun _ => ?_))
   | exact ih0 _ _ _ _ _ _ _ _ _ _ _ _
   | exact ih1 _ _ _ _ _ _ _ _ _ _
   | exact ih2 _ _ _ _ _ _ _ _ _ _ _
   | exact ih3 _ _ _ _
   | exact dialtonelaw12_kind.mono _ _ _
   | exact dialtonelaw12_reads.mono _ _ _ _ _
   | exact plan_Range.mono _ _ _ _
   | exact plan_Same.mono _ _ _ _
   | exact plan_Valid.mono _ _
   | exact plan_Write.mono _ _ _ _
   | exact LeO.none _
   | refine LeO.ite ?_ ?_
   | refine LeO.bind ?_ (fun _ => ?_)
  ·intro y0 y1 y2 y3 y4 y5 y6 y7 y8 y9 y10
   unfold dialtonelaw12_sane.j2
   repeat' first
   | (with_reducible exact ih0 _ _ _ _ _ _ _ _ _ _ _ _)
   | (with_reducible exact ih1 _ _ _ _ _ _ _ _ _ _)
   | (with_reducible exact ih2 _ _ _ _ _ _ _ _ _ _ _)
   | (with_reducible exact ih3 _ _ _ _)
   | (with_reducible exact dialtonelaw12_kind.mono _ _ _)
   | (with_reducible exact dialtonelaw12_reads.mono _ _ _ _ _)
   | (with_reducible exact plan_Range.mono _ _ _ _)
   | (with_reducible exact plan_Same.mono _ _ _ _)
   | (with_reducible exact plan_Valid.mono _ _)
   | (with_reducible exact plan_Write.mono _ _ _ _)
   | (with_reducible exact LeO.refl _)
   | (with_reducible exact LeO.none _)
   | (with_reducible refine LeO.ite ?_ ?_)
   | (with_reducible refine LeO.bind ?_ (fun _ => ?_))
   | exact ih0 _ _ _ _ _ _ _ _ _ _ _ _
   | exact ih1 _ _ _ _ _ _ _ _ _ _
   | exact ih2 _ _ _ _ _ _ _ _ _ _ _
   | exact ih3 _ _ _ _
   | exact dialtonelaw12_kind.mono _ _ _
   | exact dialtonelaw12_reads.mono _ _ _ _ _
   | exact plan_Range.mono _ _ _ _
   | exact plan_Same.mono _ _ _ _
   | exact plan_Valid.mono _ _
   | exact plan_Write.mono _ _ _ _
   | exact LeO.none _
   | refine LeO.ite ?_ ?_
   | refine LeO.bind ?_ (fun _ => ?_)
  ·intro y0 y1 y2 y3
   unfold dialtonelaw12_sane.j3
   repeat' first
   | (with_reducible exact ih0 _ _ _ _ _ _ _ _ _ _ _ _)
   | (with_reducible exact ih1 _ _ _ _ _ _ _ _ _ _)
   | (with_reducible exact ih2 _ _ _ _ _ _ _ _ _ _ _)
   | (with_reducible exact ih3 _ _ _ _)
   | (with_reducible exact dialtonelaw12_kind.mono _ _ _)
   | (with_reducible exact dialtonelaw12_reads.mono _ _ _ _ _)
   | (with_reducible exact plan_Range.mono _ _ _ _)
   | (with_reducible exact plan_Same.mono _ _ _ _)
   | (with_reducible exact plan_Valid.mono _ _)
   | (with_reducible exact plan_Write.mono _ _ _ _)
   | (with_reducible exact LeO.refl _)
   | (with_reducible exact LeO.none _)
   | (with_reducible refine LeO.ite ?_ ?_)
   | (with_reducible refine LeO.bind ?_ (fun _ => ?_))
   | exact ih0 _ _ _ _ _ _ _ _ _ _ _ _
   | exact ih1 _ _ _ _ _ _ _ _ _ _
   | exact ih2 _ _ _ _ _ _ _ _ _ _ _
   | exact ih3 _ _ _ _
   | exact dialtonelaw12_kind.mono _ _ _
   | exact dialtonelaw12_reads.mono _ _ _ _ _
   | exact plan_Range.mono _ _ _ _
   | exact plan_Same.mono _ _ _ _
   | exact plan_Valid.mono _ _
   | exact plan_Write.mono _ _ _ _
   | exact LeO.none _
   | refine LeO.ite ?_ ?_
   | refine LeO.bind ?_ (fun _ => ?_)
theorem dialtonelaw12_sane.mono : ∀ k, LeO (dialtonelaw12_sane.f k ) (dialtonelaw12_sane.f (k + 1) ) := by
 intro  k
 obtain ⟨ih0, ih1, ih2, ih3⟩ := dialtonelaw12_sane.mono_l k
 unfold dialtonelaw12_sane.f
 repeat' first
  | (with_reducible exact ih0 _ _ _ _ _ _ _ _ _ _ _ _)
  | (with_reducible exact ih1 _ _ _ _ _ _ _ _ _ _)
  | (with_reducible exact ih2 _ _ _ _ _ _ _ _ _ _ _)
  | (with_reducible exact ih3 _ _ _ _)
  | (with_reducible exact dialtonelaw12_kind.mono _ _ _)
  | (with_reducible exact dialtonelaw12_reads.mono _ _ _ _ _)
  | (with_reducible exact plan_Range.mono _ _ _ _)
  | (with_reducible exact plan_Same.mono _ _ _ _)
  | (with_reducible exact plan_Valid.mono _ _)
  | (with_reducible exact plan_Write.mono _ _ _ _)
  | (with_reducible exact LeO.refl _)
  | (with_reducible exact LeO.none _)
  | (with_reducible refine LeO.ite ?_ ?_)
  | (with_reducible refine LeO.bind ?_ (fun _ => ?_))
  | exact ih0 _ _ _ _ _ _ _ _ _ _ _ _
  | exact ih1 _ _ _ _ _ _ _ _ _ _
  | exact ih2 _ _ _ _ _ _ _ _ _ _ _
  | exact ih3 _ _ _ _
  | exact dialtonelaw12_kind.mono _ _ _
  | exact dialtonelaw12_reads.mono _ _ _ _ _
  | exact plan_Range.mono _ _ _ _
  | exact plan_Same.mono _ _ _ _
  | exact plan_Valid.mono _ _
  | exact plan_Write.mono _ _ _ _
  | exact LeO.none _
  | refine LeO.ite ?_ ?_
  | refine LeO.bind ?_ (fun _ => ?_)
set_option maxHeartbeats 8000000 in
set_option maxRecDepth 100000 in
theorem dialtonelaw12_sane.calls (k : Nat)  (r : Bool) (w : World) (hG : Glb w) (h : dialtonelaw12_sane.f k  = some r) :
 Calls Tryz.prog 11 #[] w fun e w' => e = .returned (.bool r) ∧ Below w.heap.size w w' := by
 have HGLB := Aside0.mk hG
 clear hG
 have hu40 := Tryz.underlying40
 have hu29 := Tryz.underlying29
 have HB := Aside0.mk (Below.refl w.heap.size w)
 have H : ((dialtonelaw12_example.f).bind fun t175 => ((plan_Write.f k t175 82001234 1).bind fun bt178 => ((plan_Write.f k t175 82991234 2).bind fun bt180 => ((plan_Write.f k t175 82991234 1).bind fun bt182 => ((plan_Range.f k t175 0 1).bind fun bt184 => ((plan_Range.f k t175 1 1).bind fun bt188 => ((plan_Range.f k t175 0 3).bind fun bt192 => ((plan_Range.f k t175 1 3).bind fun bt196 => (if bt178.2 = 0 then (if bt180.2 = 0 then (if bt182.2 = 120 then (if bt184.2.2 = 0 then (if bt188.2.2 = 0 then (if bt192.2.2 = 0 then (dialtonelaw12_sane.j0 k t175 bt178.1 bt180.1 (bt196.2.2 != 0) bt184.1 bt184.2.1 bt188.1 bt188.2.1 bt192.1 bt192.2.1 bt196.1 bt196.2.1) else (none)) else (none)) else (none)) else (none)) else (none)) else (none)))))))))) = some r := h
 clear h
 replace H := Option.bind_eq_some_iff.mp H
 obtain ⟨t175, A10, H⟩ := H
 try dsimp only at H
 have A1 := Aside0.mk A10
 clear A10
 replace H := Option.bind_eq_some_iff.mp H
 obtain ⟨⟨t178, t179⟩, A20, H⟩ := H
 try dsimp only at H
 have A2 := Aside0.mk A20
 clear A20
 replace H := Option.bind_eq_some_iff.mp H
 obtain ⟨⟨t180, t181⟩, A30, H⟩ := H
 try dsimp only at H
 have A3 := Aside0.mk A30
 clear A30
 replace H := Option.bind_eq_some_iff.mp H
 obtain ⟨⟨t182, t183⟩, A40, H⟩ := H
 try dsimp only at H
 have A4 := Aside0.mk A40
 clear A40
 replace H := Option.bind_eq_some_iff.mp H
 obtain ⟨⟨t184, t185, t186⟩, A50, H⟩ := H
 try dsimp only at H
 have A5 := Aside0.mk A50
 clear A50
 replace H := Option.bind_eq_some_iff.mp H
 obtain ⟨⟨t188, t189, t190⟩, A60, H⟩ := H
 try dsimp only at H
 have A6 := Aside0.mk A60
 clear A60
 replace H := Option.bind_eq_some_iff.mp H
 obtain ⟨⟨t192, t193, t194⟩, A70, H⟩ := H
 try dsimp only at H
 have A7 := Aside0.mk A70
 clear A70
 replace H := Option.bind_eq_some_iff.mp H
 obtain ⟨⟨t196, t197, t198⟩, A80, H⟩ := H
 try dsimp only at H
 have A8 := Aside0.mk A80
 clear A80
 have HC9 := Aside0.mk H
 clear H
 go_enter Tryz.func11, Tryz.ntmps11
 go_upto_region 9 with (first | ((with_reducible refine gate_callee (f := 30) rfl ?_); refine goesL_ (some 19) rfl rfl Tryz.func30 (by kernel_rfl) rfl #[] rfl (zq7) ?_; (with_reducible refine (dialtonelaw12_example.calls  t175 _ A1.out).mono ?_); rintro e w10 ⟨v176, rfl, ho0, hb⟩; refine ⟨_, rfl, ?_⟩; have HO177 := Aside0.mk (Kd.R_lower ho0 (below_size (zq5))); replace HB := Aside0.mk (below_step (zq5) hb); (try clear hb); (try clear hb2); (try clear hk); (try clear hi); (try clear ho0); obtain ⟨Ao11, co11, eo11⟩ := Kd.R_slice HO177.out; subst eo11) | ((with_reducible refine gate_callee (f := 17) rfl ?_); refine goesL_ (some 22) rfl rfl Tryz.func17 (by kernel_rfl) rfl #[.slice Ao11 t175.length co11, .int .i64 82001234, .int .i64 1] rfl (zq7) ?_; (with_reducible refine (plan_Write.calls k _ _ t175 82001234 1 t178 t179 _ ?side1 ?side2 ?side3 A2.out).mono ?_); (case side1 => exact zq56); (case side2 => exact zq57); (case side3 => exact zq33); rintro e w12 ⟨rfl, hb⟩; refine ⟨_, rfl, ?_⟩; replace HO177 := Aside0.mk (Kd.R_below (zq58) hb); replace HB := Aside0.mk (below_step (zq5) hb); (try clear hb); (try clear hb2); (try clear hk); (try clear hi)) | ((with_reducible refine gate_callee (f := 17) rfl ?_); refine goesL_ (some 27) rfl rfl Tryz.func17 (by kernel_rfl) rfl #[.slice Ao11 t175.length co11, .int .i64 82991234, .int .i64 2] rfl (zq7) ?_; (with_reducible refine (plan_Write.calls k _ _ t175 82991234 2 t180 t181 _ ?side1 ?side2 ?side3 A3.out).mono ?_); (case side1 => exact zq56); (case side2 => exact zq57); (case side3 => exact zq33); rintro e w13 ⟨rfl, hb⟩; refine ⟨_, rfl, ?_⟩; replace HO177 := Aside0.mk (Kd.R_below (zq58) hb); replace HB := Aside0.mk (below_step (zq5) hb); (try clear hb); (try clear hb2); (try clear hk); (try clear hi)) | ((with_reducible refine gate_callee (f := 17) rfl ?_); refine goesL_ (some 32) rfl rfl Tryz.func17 (by kernel_rfl) rfl #[.slice Ao11 t175.length co11, .int .i64 82991234, .int .i64 1] rfl (zq7) ?_; (with_reducible refine (plan_Write.calls k _ _ t175 82991234 1 t182 t183 _ ?side1 ?side2 ?side3 A4.out).mono ?_); (case side1 => exact zq56); (case side2 => exact zq57); (case side3 => exact zq33); rintro e w14 ⟨rfl, hb⟩; refine ⟨_, rfl, ?_⟩; replace HO177 := Aside0.mk (Kd.R_below (zq58) hb); replace HB := Aside0.mk (below_step (zq5) hb); (try clear hb); (try clear hb2); (try clear hk); (try clear hi)) | ((with_reducible refine gate_callee (f := 19) rfl ?_); refine goesL_ (some 37) rfl rfl Tryz.func19 (by kernel_rfl) rfl #[.slice Ao11 t175.length co11, .int .i64 0, .int .i64 1] rfl (zq7) ?_; (with_reducible refine (plan_Range.calls k _ _ t175 0 1 t184 t185 t186 _ ?side1 ?side2 A5.out).mono ?_); (case side1 => exact zq56); (case side2 => exact zq57); rintro e w15 ⟨rfl, hb⟩; refine ⟨_, rfl, ?_⟩; replace HO177 := Aside0.mk (Kd.R_below (zq58) hb); replace HB := Aside0.mk (below_step (zq5) hb); (try clear hb); (try clear hb2); (try clear hk); (try clear hi)) | ((with_reducible refine gate_dst (N := 8) rfl ?_); (try (refine gate_guard (by rfl) ?_; dsimp only)); refine box_event ?hg (N := 8) ?hd (cs := #[.int .i64 0, .int .i64 0]) (t := 40) ?hr ?_; (case hd => rfl); (case hg => rfl); (case hr => exact zq3); intro gb187 hg w16 hbox hb; replace HO177 := Aside0.mk (Kd.R_below (zq58) hb); have BK187 := Aside0.mk (hbox); have GW187 := Aside0.mk ((zq4 : w.heap.size ≤ gb187)); have GE187 := Aside0.mk ((zq4 : w.heap.size ≤ gb187)); replace HB := Aside0.mk (below_step (zq5) hb); clear hb hbox hg; have hcz17_0 : w16.cell? ⟨gb187, 0, none⟩ = some (.int .i64 0) := (blk_cell BK187.out 0).trans rfl; have hcz17_1 : w16.cell? ⟨gb187, 1, none⟩ = some (.int .i64 0) := (blk_cell BK187.out 1).trans rfl; have hfz17_0 := blk_frozen BK187.out 0; have hfz17_1 := blk_frozen BK187.out 1) | ((with_reducible refine gate_callee (f := 19) rfl ?_); refine goesL_ (some 42) rfl rfl Tryz.func19 (by kernel_rfl) rfl #[.slice Ao11 t175.length co11, .int .i64 1, .int .i64 1] rfl (zq7) ?_; (with_reducible refine (plan_Range.calls k _ _ t175 1 1 t188 t189 t190 _ ?side1 ?side2 A6.out).mono ?_); (case side1 => refine (Kd.R_reads' (e := 29) (base := w.heap.size) (ok := fun k_ => True) (n := t175.length) (c := co11) ?_).2.2; exact (zq59)); (case side2 => exact zq57); rintro e w18 ⟨rfl, hb⟩; refine ⟨_, rfl, ?_⟩; replace HO177 := Aside0.mk (Kd.R_below (zq59) hb); replace BK187 := Aside0.mk (blk_below (g := gb187) (o := .cells #[.int .i64 t184, .int .i64 t185] 40 (0, 0)) (by (with_reducible repeat (first | refine blk_drewN ?_ _ | refine blk_drew ?_ | refine blk_alloc ?_ _)); refine blk_put (cs := #[.int .i64 t184, .int .i64 0]) ?_ 1 _ rfl; (with_reducible repeat (first | refine blk_drewN ?_ _ | refine blk_drew ?_ | refine blk_alloc ?_ _)); refine blk_put (cs := #[.int .i64 0, .int .i64 0]) ?_ 0 _ rfl; (with_reducible repeat (first | refine blk_drewN ?_ _ | refine blk_drew ?_ | refine blk_alloc ?_ _)); exact BK187.out) hb); replace HB := Aside0.mk (below_step (zq60) hb); (try clear hb); (try clear hb2); (try clear hk); (try clear hi)) | ((with_reducible refine gate_dst (N := 10) rfl ?_); (try (refine gate_guard (by rfl) ?_; dsimp only)); refine box_event ?hg (N := 10) ?hd (cs := #[.int .i64 0, .int .i64 0]) (t := 40) ?hr ?_; (case hd => rfl); (case hg => rfl); (case hr => exact zq3); intro gb191 hg w19 hbox hb; replace HO177 := Aside0.mk (Kd.R_below (zq58) hb); have BK191 := Aside0.mk (hbox); have GW191 := Aside0.mk ((zq61 : w.heap.size ≤ gb191)); have GE191 := Aside0.mk ((zq61 : w.heap.size ≤ gb191)); replace HB := Aside0.mk (below_step (zq60) hb); have NB187_191 := Aside0.mk ((zq62 : gb187 ≠ gb191)); have NB191_187 := Aside0.mk ((zq64 : gb191 ≠ gb187)); replace BK187 := Aside0.mk (blk_below (g := gb187) (o := .cells #[.int .i64 t184, .int .i64 t185] 40 (0, 0)) (zq63) hb); clear hb hbox hg; have hnb20 := NB191_187.out; have hnc20 := NB187_191.out; have hcz21_0 : w19.cell? ⟨gb191, 0, none⟩ = some (.int .i64 0) := (blk_cell BK191.out 0).trans rfl; have hcz21_1 : w19.cell? ⟨gb191, 1, none⟩ = some (.int .i64 0) := (blk_cell BK191.out 1).trans rfl; have hfz21_0 := blk_frozen BK191.out 0; have hfz21_1 := blk_frozen BK191.out 1) | ((with_reducible refine gate_callee (f := 19) rfl ?_); refine goesL_ (some 47) rfl rfl Tryz.func19 (by kernel_rfl) rfl #[.slice Ao11 t175.length co11, .int .i64 0, .int .i64 3] rfl (zq7) ?_; (with_reducible refine (plan_Range.calls k _ _ t175 0 3 t192 t193 t194 _ ?side1 ?side2 A7.out).mono ?_); (case side1 => refine (Kd.R_reads' (e := 29) (base := w.heap.size) (ok := fun k_ => True) (n := t175.length) (c := co11) ?_).2.2; exact (zq65)); (case side2 => exact zq57); rintro e w22 ⟨rfl, hb⟩; refine ⟨_, rfl, ?_⟩; replace HO177 := Aside0.mk (Kd.R_below (zq65) hb); replace BK187 := Aside0.mk (blk_below (g := gb187) (o := .cells #[.int .i64 t184, .int .i64 t185] 40 (0, 0)) (by (with_reducible repeat (first | refine blk_drewN ?_ _ | refine blk_drew ?_ | refine blk_alloc ?_ _)); refine blk_far ?_ NB187_191.out _; (with_reducible repeat (first | refine blk_drewN ?_ _ | refine blk_drew ?_ | refine blk_alloc ?_ _)); refine blk_far ?_ NB187_191.out _; (with_reducible repeat (first | refine blk_drewN ?_ _ | refine blk_drew ?_ | refine blk_alloc ?_ _)); exact BK187.out) hb); replace BK191 := Aside0.mk (blk_below (g := gb191) (o := .cells #[.int .i64 t188, .int .i64 t189] 40 (0, 0)) (by (with_reducible repeat (first | refine blk_drewN ?_ _ | refine blk_drew ?_ | refine blk_alloc ?_ _)); refine blk_put (cs := #[.int .i64 t188, .int .i64 0]) ?_ 1 _ rfl; (with_reducible repeat (first | refine blk_drewN ?_ _ | refine blk_drew ?_ | refine blk_alloc ?_ _)); refine blk_put (cs := #[.int .i64 0, .int .i64 0]) ?_ 0 _ rfl; (with_reducible repeat (first | refine blk_drewN ?_ _ | refine blk_drew ?_ | refine blk_alloc ?_ _)); exact BK191.out) hb); replace HB := Aside0.mk (below_step (zq66) hb); (try clear hb); (try clear hb2); (try clear hk); (try clear hi)) | ((with_reducible refine gate_dst (N := 12) rfl ?_); (try (refine gate_guard (by rfl) ?_; dsimp only)); refine box_event ?hg (N := 12) ?hd (cs := #[.int .i64 0, .int .i64 0]) (t := 40) ?hr ?_; (case hd => rfl); (case hg => rfl); (case hr => exact zq3); intro gb195 hg w23 hbox hb; replace HO177 := Aside0.mk (Kd.R_below (zq58) hb); have BK195 := Aside0.mk (hbox); have GW195 := Aside0.mk ((zq67 : w.heap.size ≤ gb195)); have GE195 := Aside0.mk ((zq67 : w.heap.size ≤ gb195)); replace HB := Aside0.mk (below_step (zq66) hb); have NB187_195 := Aside0.mk ((zq62 : gb187 ≠ gb195)); have NB195_187 := Aside0.mk ((zq64 : gb195 ≠ gb187)); replace BK187 := Aside0.mk (blk_below (g := gb187) (o := .cells #[.int .i64 t184, .int .i64 t185] 40 (0, 0)) (zq63) hb); have NB191_195 := Aside0.mk ((zq68 : gb191 ≠ gb195)); have NB195_191 := Aside0.mk ((zq70 : gb195 ≠ gb191)); replace BK191 := Aside0.mk (blk_below (g := gb191) (o := .cells #[.int .i64 t188, .int .i64 t189] 40 (0, 0)) (zq69) hb); clear hb hbox hg; have hnb24 := NB195_187.out; have hnc24 := NB187_195.out; have hnb25 := NB195_191.out; have hnc25 := NB191_195.out; have hcz26_0 : w23.cell? ⟨gb195, 0, none⟩ = some (.int .i64 0) := (blk_cell BK195.out 0).trans rfl; have hcz26_1 : w23.cell? ⟨gb195, 1, none⟩ = some (.int .i64 0) := (blk_cell BK195.out 1).trans rfl; have hfz26_0 := blk_frozen BK195.out 0; have hfz26_1 := blk_frozen BK195.out 1) | ((with_reducible refine gate_callee (f := 19) rfl ?_); refine goesL_ (some 52) rfl rfl Tryz.func19 (by kernel_rfl) rfl #[.slice Ao11 t175.length co11, .int .i64 1, .int .i64 3] rfl (zq7) ?_; (with_reducible refine (plan_Range.calls k _ _ t175 1 3 t196 t197 t198 _ ?side1 ?side2 A8.out).mono ?_); (case side1 => refine (Kd.R_reads' (e := 29) (base := w.heap.size) (ok := fun k_ => True) (n := t175.length) (c := co11) ?_).2.2; exact (zq71)); (case side2 => exact zq57); rintro e w27 ⟨rfl, hb⟩; refine ⟨_, rfl, ?_⟩; replace HO177 := Aside0.mk (Kd.R_below (zq71) hb); replace BK187 := Aside0.mk (blk_below (g := gb187) (o := .cells #[.int .i64 t184, .int .i64 t185] 40 (0, 0)) (by (with_reducible repeat (first | refine blk_drewN ?_ _ | refine blk_drew ?_ | refine blk_alloc ?_ _)); refine blk_far ?_ NB187_195.out _; (with_reducible repeat (first | refine blk_drewN ?_ _ | refine blk_drew ?_ | refine blk_alloc ?_ _)); refine blk_far ?_ NB187_195.out _; (with_reducible repeat (first | refine blk_drewN ?_ _ | refine blk_drew ?_ | refine blk_alloc ?_ _)); exact BK187.out) hb); replace BK191 := Aside0.mk (blk_below (g := gb191) (o := .cells #[.int .i64 t188, .int .i64 t189] 40 (0, 0)) (by (with_reducible repeat (first | refine blk_drewN ?_ _ | refine blk_drew ?_ | refine blk_alloc ?_ _)); refine blk_far ?_ NB191_195.out _; (with_reducible repeat (first | refine blk_drewN ?_ _ | refine blk_drew ?_ | refine blk_alloc ?_ _)); refine blk_far ?_ NB191_195.out _; (with_reducible repeat (first | refine blk_drewN ?_ _ | refine blk_drew ?_ | refine blk_alloc ?_ _)); exact BK191.out) hb); replace BK195 := Aside0.mk (blk_below (g := gb195) (o := .cells #[.int .i64 t192, .int .i64 t193] 40 (0, 0)) (by (with_reducible repeat (first | refine blk_drewN ?_ _ | refine blk_drew ?_ | refine blk_alloc ?_ _)); refine blk_put (cs := #[.int .i64 t192, .int .i64 0]) ?_ 1 _ rfl; (with_reducible repeat (first | refine blk_drewN ?_ _ | refine blk_drew ?_ | refine blk_alloc ?_ _)); refine blk_put (cs := #[.int .i64 0, .int .i64 0]) ?_ 0 _ rfl; (with_reducible repeat (first | refine blk_drewN ?_ _ | refine blk_drew ?_ | refine blk_alloc ?_ _)); exact BK195.out) hb); replace HB := Aside0.mk (below_step (zq72) hb); (try clear hb); (try clear hb2); (try clear hk); (try clear hi)) | ((with_reducible refine gate_dst (N := 14) rfl ?_); (try (refine gate_guard (by rfl) ?_; dsimp only)); refine box_event ?hg (N := 14) ?hd (cs := #[.int .i64 0, .int .i64 0]) (t := 40) ?hr ?_; (case hd => rfl); (case hg => rfl); (case hr => exact zq3); intro gb199 hg w28 hbox hb; replace HO177 := Aside0.mk (Kd.R_below (zq58) hb); have BK199 := Aside0.mk (hbox); have GW199 := Aside0.mk ((zq73 : w.heap.size ≤ gb199)); have GE199 := Aside0.mk ((zq73 : w.heap.size ≤ gb199)); replace HB := Aside0.mk (below_step (zq72) hb); have NB187_199 := Aside0.mk ((zq62 : gb187 ≠ gb199)); have NB199_187 := Aside0.mk ((zq64 : gb199 ≠ gb187)); replace BK187 := Aside0.mk (blk_below (g := gb187) (o := .cells #[.int .i64 t184, .int .i64 t185] 40 (0, 0)) (zq63) hb); have NB191_199 := Aside0.mk ((zq68 : gb191 ≠ gb199)); have NB199_191 := Aside0.mk ((zq70 : gb199 ≠ gb191)); replace BK191 := Aside0.mk (blk_below (g := gb191) (o := .cells #[.int .i64 t188, .int .i64 t189] 40 (0, 0)) (zq69) hb); have NB195_199 := Aside0.mk ((by rw [hg]; exact Nat.ne_of_lt (blk_lt (g := gb195) (o := .cells #[.int .i64 t192, .int .i64 t193] 40 (0, 0)) (zq74)) : gb195 ≠ gb199)); have NB199_195 := Aside0.mk ((by rw [hg]; exact Nat.ne_of_gt (blk_lt (g := gb195) (o := .cells #[.int .i64 t192, .int .i64 t193] 40 (0, 0)) (zq74)) : gb199 ≠ gb195)); replace BK195 := Aside0.mk (blk_below (g := gb195) (o := .cells #[.int .i64 t192, .int .i64 t193] 40 (0, 0)) (zq74) hb); clear hb hbox hg; have hnb29 := NB199_187.out; have hnc29 := NB187_199.out; have hnb30 := NB199_191.out; have hnc30 := NB191_199.out; have hnb31 := NB199_195.out; have hnc31 := NB195_199.out; have hcz32_0 : w28.cell? ⟨gb199, 0, none⟩ = some (.int .i64 0) := (blk_cell BK199.out 0).trans rfl; have hcz32_1 : w28.cell? ⟨gb199, 1, none⟩ = some (.int .i64 0) := (blk_cell BK199.out 1).trans rfl; have hfz32_0 := blk_frozen BK199.out 0; have hfz32_1 := blk_frozen BK199.out 1))
 (try simp only [Act.put, List.setIfInBounds_toArray, List.set_cons_zero, List.set_cons_succ])
 go_cut [80] (fun v80 wc => ∃ (kq : Nat) (x80_8 : Bool), v80 = .bool x80_8 ∧ Aside0 (dialtonelaw12_sane.j0 kq t175 t178 t180 x80_8 t184 t185 t188 t189 t192 t193 t196 t197 = some r) ∧ Aside0 (kq ≤ k) ∧ Aside0 (Kd.R k29 29 wc w.heap.size (fun _ => True) (.slice Ao11 t175.length co11) t175) ∧ Aside0 (wc.heap[gb187]? = some (.cells #[.int .i64 t184, .int .i64 t185] 40 (0, 0))) ∧ Aside0 (wc.heap[gb191]? = some (.cells #[.int .i64 t188, .int .i64 t189] 40 (0, 0))) ∧ Aside0 (wc.heap[gb195]? = some (.cells #[.int .i64 t192, .int .i64 t193] 40 (0, 0))) ∧ Aside0 (wc.heap[gb199]? = some (.cells #[.int .i64 t196, .int .i64 t197] 40 (0, 0))) ∧ Aside0 (Below w.heap.size w wc))
 case first =>
  have H := HC9.out
  clear HC9
  by_cases c33 : t179 = 0
  rotate_left
  ·rw [if_neg c33] at H
   exact absurd H (by simp)
  rw [if_pos c33] at H
  have c33b0 : (t179 == 0) = true := beq_iff_eq.mpr c33
  have c33b1 : (t179 != 0) = false := bne_eq_false_iff_eq.mpr c33
  clear c33
  (first | rw [c33b0] | (simp only [i64_w, i32_w]; rw [c33b0]) | skip)
  by_cases c34 : t181 = 0
  rotate_left
  ·rw [if_neg c34] at H
   exact absurd H (by simp)
  rw [if_pos c34] at H
  have c34b0 : (t181 == 0) = true := beq_iff_eq.mpr c34
  have c34b1 : (t181 != 0) = false := bne_eq_false_iff_eq.mpr c34
  clear c34
  by_cases c35 : t183 = 120
  rotate_left
  ·rw [if_neg c35] at H
   exact absurd H (by simp)
  rw [if_pos c35] at H
  have c35b0 : (t183 == 120) = true := beq_iff_eq.mpr c35
  have c35b1 : (t183 != 120) = false := bne_eq_false_iff_eq.mpr c35
  clear c35
  by_cases c36 : t186 = 0
  rotate_left
  ·rw [if_neg c36] at H
   exact absurd H (by simp)
  rw [if_pos c36] at H
  have c36b0 : (t186 == 0) = true := beq_iff_eq.mpr c36
  have c36b1 : (t186 != 0) = false := bne_eq_false_iff_eq.mpr c36
  clear c36
  by_cases c37 : t190 = 0
  rotate_left
  ·rw [if_neg c37] at H
   exact absurd H (by simp)
  rw [if_pos c37] at H
  have c37b0 : (t190 == 0) = true := beq_iff_eq.mpr c37
  have c37b1 : (t190 != 0) = false := bne_eq_false_iff_eq.mpr c37
  clear c37
  by_cases c38 : t194 = 0
  rotate_left
  ·rw [if_neg c38] at H
   exact absurd H (by simp)
  rw [if_pos c38] at H
  have c38b0 : (t194 == 0) = true := beq_iff_eq.mpr c38
  have c38b1 : (t194 != 0) = false := bne_eq_false_iff_eq.mpr c38
  clear c38
  have H' := Aside0.mk H
  clear H
  go_wp2
  go_meet
  case rel => exact ⟨_, ((t198 != 0)), (zq1), H', ⟨zq10⟩, ⟨by (with_reducible repeat (first | apply Kd.R_alloc | apply Kd.R_drewN | apply Kd.R_drew)); exact Kd.R_mono (Kd.R_far (p := ⟨gb199, 1, none⟩) (Kd.R_far (p := ⟨gb199, 0, none⟩) (Kd.R_types HO177.out BK199.out (by decide)) (fun _ hk => hk.2) (.int .i64 t196)) (fun _ hk => hk.2) (.int .i64 t197)) (fun _ hk => trivial)⟩, ⟨by (with_reducible repeat (first | refine blk_drewN ?_ _ | refine blk_drew ?_ | refine blk_alloc ?_ _)); refine blk_far ?_ NB187_199.out _; (with_reducible repeat (first | refine blk_drewN ?_ _ | refine blk_drew ?_ | refine blk_alloc ?_ _)); refine blk_far ?_ NB187_199.out _; (with_reducible repeat (first | refine blk_drewN ?_ _ | refine blk_drew ?_ | refine blk_alloc ?_ _)); exact BK187.out⟩, ⟨by (with_reducible repeat (first | refine blk_drewN ?_ _ | refine blk_drew ?_ | refine blk_alloc ?_ _)); refine blk_far ?_ NB191_199.out _; (with_reducible repeat (first | refine blk_drewN ?_ _ | refine blk_drew ?_ | refine blk_alloc ?_ _)); refine blk_far ?_ NB191_199.out _; (with_reducible repeat (first | refine blk_drewN ?_ _ | refine blk_drew ?_ | refine blk_alloc ?_ _)); exact BK191.out⟩, ⟨by (with_reducible repeat (first | refine blk_drewN ?_ _ | refine blk_drew ?_ | refine blk_alloc ?_ _)); refine blk_far ?_ NB195_199.out _; (with_reducible repeat (first | refine blk_drewN ?_ _ | refine blk_drew ?_ | refine blk_alloc ?_ _)); refine blk_far ?_ NB195_199.out _; (with_reducible repeat (first | refine blk_drewN ?_ _ | refine blk_drew ?_ | refine blk_alloc ?_ _)); exact BK195.out⟩, ⟨by (with_reducible repeat (first | refine blk_drewN ?_ _ | refine blk_drew ?_ | refine blk_alloc ?_ _)); refine blk_put (cs := #[.int .i64 t196, .int .i64 0]) ?_ 1 _ rfl; (with_reducible repeat (first | refine blk_drewN ?_ _ | refine blk_drew ?_ | refine blk_alloc ?_ _)); refine blk_put (cs := #[.int .i64 0, .int .i64 0]) ?_ 0 _ rfl; (with_reducible repeat (first | refine blk_drewN ?_ _ | refine blk_drew ?_ | refine blk_alloc ?_ _)); exact BK199.out⟩, ⟨zq77⟩⟩
 case rest =>
  clear HC9
  try clear c1
  try clear c2
  try clear p2
  try clear c3
  try clear p6
  try clear c11
  try clear c17
  try clear c19
  try clear c20
  try clear c24
  try clear c25
  try clear c29
  try clear c30
  try clear c31
  try clear c33
  try clear c33b0
  try clear c33b1
  try clear c34
  try clear c34b0
  try clear c34b1
  try clear c35
  try clear c35b0
  try clear c35b1
  try clear c36
  try clear c36b0
  try clear c36b1
  try clear c37
  try clear c37b0
  try clear c37b1
  try clear c38
  try clear c38b0
  try clear c38b1
  try clear hcz17_0
  try clear hcz17_1
  try clear hcz21_0
  try clear hcz21_1
  try clear hcz26_0
  try clear hcz26_1
  try clear hcz32_0
  try clear hcz32_1
  try clear hfz17_0
  try clear hfz17_1
  try clear hfz21_0
  try clear hfz21_1
  try clear hfz26_0
  try clear hfz26_1
  try clear hfz32_0
  try clear hfz32_1
  obtain ⟨kq, x80_8, rfl, HA, HJ8, HO_1, BK187, BK191, BK195, BK199, HB⟩ := hcut
  cases kq with
  | zero => exact absurd HA.out (by simp [dialtonelaw12_sane.j0])
  | succ kj8 =>
   have H := HA.out
   clear HA
   simp only [dialtonelaw12_sane.j0] at H
   by_cases c39 : x80_8 = true
   ·subst c39
    rw [if_pos rfl] at H
    exact absurd H (by simp)
   replace c39 := Bool.eq_false_iff.mpr c39
   subst c39
   rw [if_neg (show ¬ (false = true) by decide)] at H
   have HC40 := Aside0.mk H
   clear H
   go_upto_region 11 with (fail)
   go_cut [16] (fun v16 wc => ∃ (kq : Nat) (x16_39 : Bool), v16 = .bool x16_39 ∧ Aside0 (dialtonelaw12_sane.j1 kq t175 x16_39 t184 t185 t188 t189 t192 t193 t196 t197 = some r) ∧ Aside0 (kq ≤ kj8) ∧ Aside0 (Kd.R k29 29 wc w.heap.size (fun _ => True) (.slice Ao11 t175.length co11) t175) ∧ Aside0 (wc.heap[gb187]? = some (.cells #[.int .i64 t184, .int .i64 t185] 40 (0, 0))) ∧ Aside0 (wc.heap[gb191]? = some (.cells #[.int .i64 t188, .int .i64 t189] 40 (0, 0))) ∧ Aside0 (wc.heap[gb195]? = some (.cells #[.int .i64 t192, .int .i64 t193] 40 (0, 0))) ∧ Aside0 (wc.heap[gb199]? = some (.cells #[.int .i64 t196, .int .i64 t197] 40 (0, 0))) ∧ Aside0 (Below w.heap.size w wc))
   case first =>
    have H := HC40.out
    clear HC40
    by_cases c41 : t178.toList = ([50, 49, 50, 51, 52] : List UInt8)
    rotate_left
    ·rw [if_neg c41] at H
     exact absurd H (by simp)
    rw [if_pos c41] at H
    have c41b0 : (t178.toList == ([50, 49, 50, 51, 52] : List UInt8)) = true := beq_iff_eq.mpr c41
    have c41b1 : (t178.toList != ([50, 49, 50, 51, 52] : List UInt8)) = false := bne_eq_false_iff_eq.mpr c41
    clear c41
    (first | rw [c41b0] | (simp only [i64_w, i32_w]; rw [c41b0]) | skip)
    by_cases c42 : t180.toList = ([56, 50, 57, 57, 49, 50, 51, 52] : List UInt8)
    rotate_left
    ·rw [if_neg c42] at H
     exact absurd H (by simp)
    rw [if_pos c42] at H
    have c42b0 : (t180.toList == ([56, 50, 57, 57, 49, 50, 51, 52] : List UInt8)) = true := beq_iff_eq.mpr c42
    have c42b1 : (t180.toList != ([56, 50, 57, 57, 49, 50, 51, 52] : List UInt8)) = false := bne_eq_false_iff_eq.mpr c42
    clear c42
    replace H := Option.bind_eq_some_iff.mp H
    obtain ⟨t200, A430, H⟩ := H
    try dsimp only at H
    have A43 := Aside0.mk A430
    clear A430
    by_cases c44 : t200 = true
    rotate_left
    ·replace c44 := Bool.eq_false_iff.mpr c44
     subst c44
     rw [if_neg (show ¬ (false = true) by decide)] at H
     exact absurd H (by simp)
    subst c44
    rw [if_pos rfl] at H
    replace H := Option.bind_eq_some_iff.mp H
    obtain ⟨t201, A450, H⟩ := H
    try dsimp only at H
    have A45 := Aside0.mk A450
    clear A450
    by_cases c46 : t201 = true
    rotate_left
    ·replace c46 := Bool.eq_false_iff.mpr c46
     subst c46
     rw [if_neg (show ¬ (false = true) by decide)] at H
     exact absurd H (by simp)
    subst c46
    rw [if_pos rfl] at H
    replace H := Option.bind_eq_some_iff.mp H
    obtain ⟨t202, A470, H⟩ := H
    try dsimp only at H
    have A47 := Aside0.mk A470
    clear A470
    by_cases c48 : t202 = true
    rotate_left
    ·replace c48 := Bool.eq_false_iff.mpr c48
     subst c48
     rw [if_neg (show ¬ (false = true) by decide)] at H
     exact absurd H (by simp)
    subst c48
    rw [if_pos rfl] at H
    replace H := Option.bind_eq_some_iff.mp H
    obtain ⟨t203, A490, H⟩ := H
    try dsimp only at H
    have A49 := Aside0.mk A490
    clear A490
    have H' := Aside0.mk H
    clear H
    go_wp2_with (first | (go_at_call 31; (with_reducible refine (dialtonelaw12_reads.calls kj8 (⟨#[50, 49, 50, 51, 52]⟩ : ByteArray) 82001234 0 5 true _ A43.out).mono ?_); rintro e w50 ⟨rfl, hb⟩; replace HO_1 := Aside0.mk (Kd.R_below (zq75) hb); replace BK187 := Aside0.mk (blk_below (g := gb187) (o := .cells #[.int .i64 t184, .int .i64 t185] 40 (0, 0)) (zq63) hb); replace BK191 := Aside0.mk (blk_below (g := gb191) (o := .cells #[.int .i64 t188, .int .i64 t189] 40 (0, 0)) (zq69) hb); replace BK195 := Aside0.mk (blk_below (g := gb195) (o := .cells #[.int .i64 t192, .int .i64 t193] 40 (0, 0)) (zq74) hb); replace BK199 := Aside0.mk (blk_below (g := gb199) (o := .cells #[.int .i64 t196, .int .i64 t197] 40 (0, 0)) (zq76) hb); replace HB := Aside0.mk (below_step (zq77) hb); (try clear hb); (try clear hb2); (try clear hk); (try clear hi)) | (go_at_call 31; (with_reducible refine (dialtonelaw12_reads.calls kj8 (⟨#[56, 50, 48, 48, 49, 50, 51, 52]⟩ : ByteArray) 82001234 0 8 true _ A45.out).mono ?_); rintro e w51 ⟨rfl, hb⟩; replace HO_1 := Aside0.mk (Kd.R_below (zq75) hb); replace BK187 := Aside0.mk (blk_below (g := gb187) (o := .cells #[.int .i64 t184, .int .i64 t185] 40 (0, 0)) (zq63) hb); replace BK191 := Aside0.mk (blk_below (g := gb191) (o := .cells #[.int .i64 t188, .int .i64 t189] 40 (0, 0)) (zq69) hb); replace BK195 := Aside0.mk (blk_below (g := gb195) (o := .cells #[.int .i64 t192, .int .i64 t193] 40 (0, 0)) (zq74) hb); replace BK199 := Aside0.mk (blk_below (g := gb199) (o := .cells #[.int .i64 t196, .int .i64 t197] 40 (0, 0)) (zq76) hb); replace HB := Aside0.mk (below_step (zq77) hb); (try clear hb); (try clear hb2); (try clear hk); (try clear hi)) | (go_at_call 31; (with_reducible refine (dialtonelaw12_reads.calls kj8 (⟨#[50, 49, 50, 51, 52, 53]⟩ : ByteArray) 82001234 0 5 true _ A47.out).mono ?_); rintro e w52 ⟨rfl, hb⟩; replace HO_1 := Aside0.mk (Kd.R_below (zq75) hb); replace BK187 := Aside0.mk (blk_below (g := gb187) (o := .cells #[.int .i64 t184, .int .i64 t185] 40 (0, 0)) (zq63) hb); replace BK191 := Aside0.mk (blk_below (g := gb191) (o := .cells #[.int .i64 t188, .int .i64 t189] 40 (0, 0)) (zq69) hb); replace BK195 := Aside0.mk (blk_below (g := gb195) (o := .cells #[.int .i64 t192, .int .i64 t193] 40 (0, 0)) (zq74) hb); replace BK199 := Aside0.mk (blk_below (g := gb199) (o := .cells #[.int .i64 t196, .int .i64 t197] 40 (0, 0)) (zq76) hb); replace HB := Aside0.mk (below_step (zq77) hb); (try clear hb); (try clear hb2); (try clear hk); (try clear hi)) | (go_at_call 31; (with_reducible refine (dialtonelaw12_reads.calls kj8 (⟨#[51, 49, 48, 48, 55]⟩ : ByteArray) 90000007 1 5 t203 _ A49.out).mono ?_); rintro e w53 ⟨rfl, hb⟩; replace HO_1 := Aside0.mk (Kd.R_below (zq75) hb); replace BK187 := Aside0.mk (blk_below (g := gb187) (o := .cells #[.int .i64 t184, .int .i64 t185] 40 (0, 0)) (zq63) hb); replace BK191 := Aside0.mk (blk_below (g := gb191) (o := .cells #[.int .i64 t188, .int .i64 t189] 40 (0, 0)) (zq69) hb); replace BK195 := Aside0.mk (blk_below (g := gb195) (o := .cells #[.int .i64 t192, .int .i64 t193] 40 (0, 0)) (zq74) hb); replace BK199 := Aside0.mk (blk_below (g := gb199) (o := .cells #[.int .i64 t196, .int .i64 t197] 40 (0, 0)) (zq76) hb); replace HB := Aside0.mk (below_step (zq77) hb); (try clear hb); (try clear hb2); (try clear hk); (try clear hi)))
    go_meet
    case rel => exact ⟨_, (t203), (zq1), H', ⟨by have := HJ8.out; first | omega | exact Nat.le_refl _⟩, ⟨zq75⟩, ⟨zq63⟩, ⟨zq69⟩, ⟨zq74⟩, ⟨zq76⟩, ⟨zq77⟩⟩
   case rest =>
    clear HC40
    try clear c1
    try clear c2
    try clear p2
    try clear c3
    try clear c4
    try clear p6
    try clear c11
    try clear c17
    try clear c19
    try clear c20
    try clear c24
    try clear c25
    try clear c29
    try clear c30
    try clear c31
    try clear c33
    try clear c33b0
    try clear c33b1
    try clear c34
    try clear c34b0
    try clear c34b1
    try clear c35
    try clear c35b0
    try clear c35b1
    try clear c36
    try clear c36b0
    try clear c36b1
    try clear c37
    try clear c37b0
    try clear c37b1
    try clear c38
    try clear c38b0
    try clear c38b1
    try clear c39
    try clear c41
    try clear c41b0
    try clear c41b1
    try clear c42
    try clear c42b0
    try clear c42b1
    try clear c44
    try clear c46
    try clear c48
    try clear hcz17_0
    try clear hcz17_1
    try clear hcz21_0
    try clear hcz21_1
    try clear hcz26_0
    try clear hcz26_1
    try clear hcz32_0
    try clear hcz32_1
    try clear hfz17_0
    try clear hfz17_1
    try clear hfz21_0
    try clear hfz21_1
    try clear hfz26_0
    try clear hfz26_1
    try clear hfz32_0
    try clear hfz32_1
    try clear p2
    try clear p6
    obtain ⟨kq, x16_39, rfl, HA, HJ39, HO_1, BK187, BK191, BK195, BK199, HB⟩ := hcut
    cases kq with
    | zero => exact absurd HA.out (by simp [dialtonelaw12_sane.j1])
    | succ kj39 =>
     have H := HA.out
     clear HA
     simp only [dialtonelaw12_sane.j1] at H
     have HC54 := Aside0.mk H
     clear H
     go_upto_region 12 with (fail)
     go_cut [17] (fun v17 wc => ∃ (kq : Nat) (x17_53 : Bool), v17 = .bool x17_53 ∧ Aside0 (dialtonelaw12_sane.j2 kq t175 x16_39 x17_53 t184 t185 t188 t189 t192 t193 t196 t197 = some r) ∧ Aside0 (kq ≤ kj39) ∧ Aside0 (Kd.R k29 29 wc w.heap.size (fun _ => True) (.slice Ao11 t175.length co11) t175) ∧ Aside0 (wc.heap[gb187]? = some (.cells #[.int .i64 t184, .int .i64 t185] 40 (0, 0))) ∧ Aside0 (wc.heap[gb191]? = some (.cells #[.int .i64 t188, .int .i64 t189] 40 (0, 0))) ∧ Aside0 (wc.heap[gb195]? = some (.cells #[.int .i64 t192, .int .i64 t193] 40 (0, 0))) ∧ Aside0 (wc.heap[gb199]? = some (.cells #[.int .i64 t196, .int .i64 t197] 40 (0, 0))) ∧ Aside0 (Below w.heap.size w wc))
     case first =>
      have H := HC54.out
      clear HC54
      replace H := Option.bind_eq_some_iff.mp H
      obtain ⟨t204, A550, H⟩ := H
      try dsimp only at H
      have A55 := Aside0.mk A550
      clear A550
      by_cases c56 : t204 = 1
      rotate_left
      ·rw [if_neg c56] at H
       exact absurd H (by simp)
      rw [if_pos c56] at H
      have c56b0 : (t204 == 1) = true := beq_iff_eq.mpr c56
      have c56b1 : (t204 != 1) = false := bne_eq_false_iff_eq.mpr c56
      clear c56
      (first | rw [c56b0] | (simp only [i64_w, i32_w]; rw [c56b0]) | skip)
      replace H := Option.bind_eq_some_iff.mp H
      obtain ⟨t205, A570, H⟩ := H
      try dsimp only at H
      have A57 := Aside0.mk A570
      clear A570
      by_cases c58 : t205 = 1
      rotate_left
      ·rw [if_neg c58] at H
       exact absurd H (by simp)
      rw [if_pos c58] at H
      have c58b0 : (t205 == 1) = true := beq_iff_eq.mpr c58
      have c58b1 : (t205 != 1) = false := bne_eq_false_iff_eq.mpr c58
      clear c58
      replace H := Option.bind_eq_some_iff.mp H
      obtain ⟨t206, A590, H⟩ := H
      try dsimp only at H
      have A59 := Aside0.mk A590
      clear A590
      by_cases c60 : t206 = 0
      rotate_left
      ·rw [if_neg c60] at H
       exact absurd H (by simp)
      rw [if_pos c60] at H
      have c60b0 : (t206 == 0) = true := beq_iff_eq.mpr c60
      have c60b1 : (t206 != 0) = false := bne_eq_false_iff_eq.mpr c60
      clear c60
      replace H := Option.bind_eq_some_iff.mp H
      obtain ⟨t207, A610, H⟩ := H
      try dsimp only at H
      have A61 := Aside0.mk A610
      clear A610
      by_cases c62 : t207 = 1
      rotate_left
      ·rw [if_neg c62] at H
       exact absurd H (by simp)
      rw [if_pos c62] at H
      have c62b0 : (t207 == 1) = true := beq_iff_eq.mpr c62
      have c62b1 : (t207 != 1) = false := bne_eq_false_iff_eq.mpr c62
      clear c62
      replace H := Option.bind_eq_some_iff.mp H
      obtain ⟨t208, A630, H⟩ := H
      try dsimp only at H
      have A63 := Aside0.mk A630
      clear A630
      by_cases c64 : t208 = 0
      rotate_left
      ·rw [if_neg c64] at H
       exact absurd H (by simp)
      rw [if_pos c64] at H
      have c64b0 : (t208 == 0) = true := beq_iff_eq.mpr c64
      have c64b1 : (t208 != 0) = false := bne_eq_false_iff_eq.mpr c64
      clear c64
      replace H := Option.bind_eq_some_iff.mp H
      obtain ⟨t209, A650, H⟩ := H
      try dsimp only at H
      have A65 := Aside0.mk A650
      clear A650
      by_cases c66 : t209 = 0
      rotate_left
      ·rw [if_neg c66] at H
       exact absurd H (by simp)
      rw [if_pos c66] at H
      have c66b0 : (t209 == 0) = true := beq_iff_eq.mpr c66
      have c66b1 : (t209 != 0) = false := bne_eq_false_iff_eq.mpr c66
      clear c66
      replace H := Option.bind_eq_some_iff.mp H
      obtain ⟨t210, A670, H⟩ := H
      try dsimp only at H
      have A67 := Aside0.mk A670
      clear A670
      have H' := Aside0.mk H
      clear H
      go_wp2_with (first | ((with_reducible refine gate_callee (f := 32) rfl ?_); refine goesL_ (some 99) rfl rfl Tryz.func32 (by kernel_rfl) rfl #[.string (⟨#[56, 50, 48, 48, 49, 50, 51]⟩ : ByteArray), .int .i64 2] rfl (zq7) ?_; (with_reducible refine (dialtonelaw12_kind.calls kj39 (⟨#[56, 50, 48, 48, 49, 50, 51]⟩ : ByteArray) 2 t204 _ A55.out).mono ?_); rintro e w68 ⟨rfl, hb⟩; refine ⟨_, rfl, ?_⟩; replace HO_1 := Aside0.mk (Kd.R_below (zq75) hb); replace BK187 := Aside0.mk (blk_below (g := gb187) (o := .cells #[.int .i64 t184, .int .i64 t185] 40 (0, 0)) (zq63) hb); replace BK191 := Aside0.mk (blk_below (g := gb191) (o := .cells #[.int .i64 t188, .int .i64 t189] 40 (0, 0)) (zq69) hb); replace BK195 := Aside0.mk (blk_below (g := gb195) (o := .cells #[.int .i64 t192, .int .i64 t193] 40 (0, 0)) (zq74) hb); replace BK199 := Aside0.mk (blk_below (g := gb199) (o := .cells #[.int .i64 t196, .int .i64 t197] 40 (0, 0)) (zq76) hb); replace HB := Aside0.mk (below_step (zq77) hb); (try clear hb); (try clear hb2); (try clear hk); (try clear hi)) | (go_at_call 32; (with_reducible refine (dialtonelaw12_kind.calls kj39 (⟨#[51]⟩ : ByteArray) 2 t205 _ A57.out).mono ?_); rintro e w69 ⟨rfl, hb⟩; replace HO_1 := Aside0.mk (Kd.R_below (zq75) hb); replace BK187 := Aside0.mk (blk_below (g := gb187) (o := .cells #[.int .i64 t184, .int .i64 t185] 40 (0, 0)) (zq63) hb); replace BK191 := Aside0.mk (blk_below (g := gb191) (o := .cells #[.int .i64 t188, .int .i64 t189] 40 (0, 0)) (zq69) hb); replace BK195 := Aside0.mk (blk_below (g := gb195) (o := .cells #[.int .i64 t192, .int .i64 t193] 40 (0, 0)) (zq74) hb); replace BK199 := Aside0.mk (blk_below (g := gb199) (o := .cells #[.int .i64 t196, .int .i64 t197] 40 (0, 0)) (zq76) hb); replace HB := Aside0.mk (below_step (zq77) hb); (try clear hb); (try clear hb2); (try clear hk); (try clear hi)) | (go_at_call 32; (with_reducible refine (dialtonelaw12_kind.calls kj39 (⟨#[53]⟩ : ByteArray) 2 t206 _ A59.out).mono ?_); rintro e w70 ⟨rfl, hb⟩; replace HO_1 := Aside0.mk (Kd.R_below (zq75) hb); replace BK187 := Aside0.mk (blk_below (g := gb187) (o := .cells #[.int .i64 t184, .int .i64 t185] 40 (0, 0)) (zq63) hb); replace BK191 := Aside0.mk (blk_below (g := gb191) (o := .cells #[.int .i64 t188, .int .i64 t189] 40 (0, 0)) (zq69) hb); replace BK195 := Aside0.mk (blk_below (g := gb195) (o := .cells #[.int .i64 t192, .int .i64 t193] 40 (0, 0)) (zq74) hb); replace BK199 := Aside0.mk (blk_below (g := gb199) (o := .cells #[.int .i64 t196, .int .i64 t197] 40 (0, 0)) (zq76) hb); replace HB := Aside0.mk (below_step (zq77) hb); (try clear hb); (try clear hb2); (try clear hk); (try clear hi)) | (go_at_call 32; (with_reducible refine (dialtonelaw12_kind.calls kj39 (⟨#[]⟩ : ByteArray) 2 t207 _ A61.out).mono ?_); rintro e w71 ⟨rfl, hb⟩; replace HO_1 := Aside0.mk (Kd.R_below (zq75) hb); replace BK187 := Aside0.mk (blk_below (g := gb187) (o := .cells #[.int .i64 t184, .int .i64 t185] 40 (0, 0)) (zq63) hb); replace BK191 := Aside0.mk (blk_below (g := gb191) (o := .cells #[.int .i64 t188, .int .i64 t189] 40 (0, 0)) (zq69) hb); replace BK195 := Aside0.mk (blk_below (g := gb195) (o := .cells #[.int .i64 t192, .int .i64 t193] 40 (0, 0)) (zq74) hb); replace BK199 := Aside0.mk (blk_below (g := gb199) (o := .cells #[.int .i64 t196, .int .i64 t197] 40 (0, 0)) (zq76) hb); replace HB := Aside0.mk (below_step (zq77) hb); (try clear hb); (try clear hb2); (try clear hk); (try clear hi)) | (go_at_call 32; (with_reducible refine (dialtonelaw12_kind.calls kj39 (⟨#[50, 49, 50, 51, 52]⟩ : ByteArray) 3 t208 _ A63.out).mono ?_); rintro e w72 ⟨rfl, hb⟩; replace HO_1 := Aside0.mk (Kd.R_below (zq75) hb); replace BK187 := Aside0.mk (blk_below (g := gb187) (o := .cells #[.int .i64 t184, .int .i64 t185] 40 (0, 0)) (zq63) hb); replace BK191 := Aside0.mk (blk_below (g := gb191) (o := .cells #[.int .i64 t188, .int .i64 t189] 40 (0, 0)) (zq69) hb); replace BK195 := Aside0.mk (blk_below (g := gb195) (o := .cells #[.int .i64 t192, .int .i64 t193] 40 (0, 0)) (zq74) hb); replace BK199 := Aside0.mk (blk_below (g := gb199) (o := .cells #[.int .i64 t196, .int .i64 t197] 40 (0, 0)) (zq76) hb); replace HB := Aside0.mk (below_step (zq77) hb); (try clear hb); (try clear hb2); (try clear hk); (try clear hi)) | (go_at_call 32; (with_reducible refine (dialtonelaw12_kind.calls kj39 (⟨#[56, 50, 48, 48, 49, 50, 51, 52]⟩ : ByteArray) 1 t209 _ A65.out).mono ?_); rintro e w73 ⟨rfl, hb⟩; replace HO_1 := Aside0.mk (Kd.R_below (zq75) hb); replace BK187 := Aside0.mk (blk_below (g := gb187) (o := .cells #[.int .i64 t184, .int .i64 t185] 40 (0, 0)) (zq63) hb); replace BK191 := Aside0.mk (blk_below (g := gb191) (o := .cells #[.int .i64 t188, .int .i64 t189] 40 (0, 0)) (zq69) hb); replace BK195 := Aside0.mk (blk_below (g := gb195) (o := .cells #[.int .i64 t192, .int .i64 t193] 40 (0, 0)) (zq74) hb); replace BK199 := Aside0.mk (blk_below (g := gb199) (o := .cells #[.int .i64 t196, .int .i64 t197] 40 (0, 0)) (zq76) hb); replace HB := Aside0.mk (below_step (zq77) hb); (try clear hb); (try clear hb2); (try clear hk); (try clear hi)) | (go_at_call 32; (with_reducible refine (dialtonelaw12_kind.calls kj39 (⟨#[50, 120]⟩ : ByteArray) 2 t210 _ A67.out).mono ?_); rintro e w74 ⟨rfl, hb⟩; replace HO_1 := Aside0.mk (Kd.R_below (zq75) hb); replace BK187 := Aside0.mk (blk_below (g := gb187) (o := .cells #[.int .i64 t184, .int .i64 t185] 40 (0, 0)) (zq63) hb); replace BK191 := Aside0.mk (blk_below (g := gb191) (o := .cells #[.int .i64 t188, .int .i64 t189] 40 (0, 0)) (zq69) hb); replace BK195 := Aside0.mk (blk_below (g := gb195) (o := .cells #[.int .i64 t192, .int .i64 t193] 40 (0, 0)) (zq74) hb); replace BK199 := Aside0.mk (blk_below (g := gb199) (o := .cells #[.int .i64 t196, .int .i64 t197] 40 (0, 0)) (zq76) hb); replace HB := Aside0.mk (below_step (zq77) hb); (try clear hb); (try clear hb2); (try clear hk); (try clear hi)))
      go_meet
      case rel => exact ⟨_, ((t210 == (-1))), (zq1), H', ⟨by have := HJ8.out; have := HJ39.out; first | omega | exact Nat.le_refl _⟩, ⟨zq75⟩, ⟨zq63⟩, ⟨zq69⟩, ⟨zq74⟩, ⟨zq76⟩, ⟨zq77⟩⟩
     case rest =>
      clear HC54
      try clear c1
      try clear c2
      try clear p2
      try clear c3
      try clear c4
      try clear c5
      try clear c6
      try clear p6
      try clear c11
      try clear c17
      try clear c19
      try clear c20
      try clear c24
      try clear c25
      try clear c29
      try clear c30
      try clear c31
      try clear c32
      try clear c33
      try clear c33b0
      try clear c33b1
      try clear c34
      try clear c34b0
      try clear c34b1
      try clear c35
      try clear c35b0
      try clear c35b1
      try clear c36
      try clear c36b0
      try clear c36b1
      try clear c37
      try clear c37b0
      try clear c37b1
      try clear c38
      try clear c38b0
      try clear c38b1
      try clear c39
      try clear c41
      try clear c41b0
      try clear c41b1
      try clear c42
      try clear c42b0
      try clear c42b1
      try clear c44
      try clear c46
      try clear c48
      try clear c56
      try clear c56b0
      try clear c56b1
      try clear c58
      try clear c58b0
      try clear c58b1
      try clear c60
      try clear c60b0
      try clear c60b1
      try clear c62
      try clear c62b0
      try clear c62b1
      try clear c64
      try clear c64b0
      try clear c64b1
      try clear p64
      try clear c66
      try clear c66b0
      try clear c66b1
      try clear hcz17_0
      try clear hcz17_1
      try clear hcz21_0
      try clear hcz21_1
      try clear hcz26_0
      try clear hcz26_1
      try clear hcz32_0
      try clear hcz32_1
      try clear hfz17_0
      try clear hfz17_1
      try clear hfz21_0
      try clear hfz21_1
      try clear hfz26_0
      try clear hfz26_1
      try clear hfz32_0
      try clear hfz32_1
      try clear p2
      try clear p6
      obtain ⟨kq, x17_53, rfl, HA, HJ53, HO_1, BK187, BK191, BK195, BK199, HB⟩ := hcut
      cases kq with
      | zero => exact absurd HA.out (by simp [dialtonelaw12_sane.j2])
      | succ kj53 =>
       have H := HA.out
       clear HA
       simp only [dialtonelaw12_sane.j2] at H
       have HC75 := Aside0.mk H
       clear H
       go_upto_region 13 with (fail)
       go_cut [18] (fun v18 wc => ∃ (kq : Nat) (x18_74 : Bool), v18 = .bool x18_74 ∧ Aside0 (dialtonelaw12_sane.j3 kq t175 x16_39 x17_53 x18_74 = some r) ∧ Aside0 (kq ≤ kj53) ∧ Aside0 (Kd.R k29 29 wc w.heap.size (fun _ => True) (.slice Ao11 t175.length co11) t175) ∧ Aside0 (wc.heap[gb187]? = some (.cells #[.int .i64 t184, .int .i64 t185] 40 (0, 0))) ∧ Aside0 (wc.heap[gb191]? = some (.cells #[.int .i64 t188, .int .i64 t189] 40 (0, 0))) ∧ Aside0 (wc.heap[gb195]? = some (.cells #[.int .i64 t192, .int .i64 t193] 40 (0, 0))) ∧ Aside0 (wc.heap[gb199]? = some (.cells #[.int .i64 t196, .int .i64 t197] 40 (0, 0))) ∧ Aside0 (Below w.heap.size w wc))
       case first =>
        have H := HC75.out
        clear HC75
        by_cases c76 : (t184 == 82000000 && (t185 == 82010000)) = true
        rotate_left
        ·rw [if_neg c76] at H
         exact absurd H (by simp)
        rw [if_pos c76] at H
        have c76b0 : (t184 == 82000000 && (t185 == 82010000)) = true := c76
        (try (have c76b1 : decide (t184 = 82000000 && (t185 == 82010000)) = true := by simpa using c76))
        (try (have c76b2 : (t184 == 82000000 && (t185 == 82010000)) = true := by simpa using c76))
        clear c76
        (first | rw [c76b0] | (simp only [i64_w, i32_w]; rw [c76b0]) | skip)
        by_cases c77 : (t188 == 90000000 && (t189 == 90001000)) = true
        rotate_left
        ·rw [if_neg c77] at H
         exact absurd H (by simp)
        rw [if_pos c77] at H
        have c77b0 : (t188 == 90000000 && (t189 == 90001000)) = true := c77
        (try (have c77b1 : decide (t188 = 90000000 && (t189 == 90001000)) = true := by simpa using c77))
        (try (have c77b2 : (t188 == 90000000 && (t189 == 90001000)) = true := by simpa using c77))
        clear c77
        by_cases c78 : (t192 == 82000000 && (t193 == 83000000)) = true
        rotate_left
        ·rw [if_neg c78] at H
         exact absurd H (by simp)
        rw [if_pos c78] at H
        have c78b0 : (t192 == 82000000 && (t193 == 83000000)) = true := c78
        (try (have c78b1 : decide (t192 = 82000000 && (t193 == 83000000)) = true := by simpa using c78))
        (try (have c78b2 : (t192 == 82000000 && (t193 == 83000000)) = true := by simpa using c78))
        clear c78
        have H' := Aside0.mk H
        clear H
        have hnb79 := NB187_191.out
        have hnc79 := NB191_187.out
        have hnb80 := NB187_195.out
        have hnc80 := NB195_187.out
        have hnb81 := NB187_199.out
        have hnc81 := NB199_187.out
        have hcz82_0 : wc.cell? ⟨gb187, 0, none⟩ = some (.int .i64 t184) := (blk_cell BK187.out 0).trans rfl
        have hcz82_1 : wc.cell? ⟨gb187, 1, none⟩ = some (.int .i64 t185) := (blk_cell BK187.out 1).trans rfl
        have hfz82_0 := blk_frozen BK187.out 0
        have hfz82_1 := blk_frozen BK187.out 1
        have hnb83 := NB191_195.out
        have hnc83 := NB195_191.out
        have hnb84 := NB191_199.out
        have hnc84 := NB199_191.out
        have hcz85_0 : wc.cell? ⟨gb191, 0, none⟩ = some (.int .i64 t188) := (blk_cell BK191.out 0).trans rfl
        have hcz85_1 : wc.cell? ⟨gb191, 1, none⟩ = some (.int .i64 t189) := (blk_cell BK191.out 1).trans rfl
        have hfz85_0 := blk_frozen BK191.out 0
        have hfz85_1 := blk_frozen BK191.out 1
        have hnb86 := NB195_199.out
        have hnc86 := NB199_195.out
        have hcz87_0 : wc.cell? ⟨gb195, 0, none⟩ = some (.int .i64 t192) := (blk_cell BK195.out 0).trans rfl
        have hcz87_1 : wc.cell? ⟨gb195, 1, none⟩ = some (.int .i64 t193) := (blk_cell BK195.out 1).trans rfl
        have hfz87_0 := blk_frozen BK195.out 0
        have hfz87_1 := blk_frozen BK195.out 1
        have hcz88_0 : wc.cell? ⟨gb199, 0, none⟩ = some (.int .i64 t196) := (blk_cell BK199.out 0).trans rfl
        have hcz88_1 : wc.cell? ⟨gb199, 1, none⟩ = some (.int .i64 t197) := (blk_cell BK199.out 1).trans rfl
        have hfz88_0 := blk_frozen BK199.out 0
        have hfz88_1 := blk_frozen BK199.out 1
        go_wp2
        go_meet
        case rel => exact ⟨_, ((t196 == 90000000 && (t197 == 100000000))), (zq1), H', ⟨by have := HJ8.out; have := HJ39.out; have := HJ53.out; first | omega | exact Nat.le_refl _⟩, ⟨zq75⟩, ⟨zq63⟩, ⟨zq69⟩, ⟨zq74⟩, ⟨zq76⟩, ⟨zq77⟩⟩
       case rest =>
        clear HC75
        try clear c1
        try clear c2
        try clear p2
        try clear c3
        try clear c4
        try clear c5
        try clear c6
        try clear p6
        try clear c7
        try clear c8
        try clear c11
        try clear c17
        try clear c19
        try clear c20
        try clear c24
        try clear c25
        try clear c29
        try clear c30
        try clear c31
        try clear c32
        try clear c33
        try clear c33b0
        try clear c33b1
        try clear c34
        try clear c34b0
        try clear c34b1
        try clear c35
        try clear c35b0
        try clear c35b1
        try clear c36
        try clear c36b0
        try clear c36b1
        try clear c37
        try clear c37b0
        try clear c37b1
        try clear c38
        try clear c38b0
        try clear c38b1
        try clear c39
        try clear c41
        try clear c41b0
        try clear c41b1
        try clear c42
        try clear c42b0
        try clear c42b1
        try clear c44
        try clear c46
        try clear c48
        try clear c56
        try clear c56b0
        try clear c56b1
        try clear c58
        try clear c58b0
        try clear c58b1
        try clear c60
        try clear c60b0
        try clear c60b1
        try clear c62
        try clear c62b0
        try clear c62b1
        try clear c64
        try clear c64b0
        try clear c64b1
        try clear p64
        try clear c66
        try clear c66b0
        try clear c66b1
        try clear c76
        try clear c76b0
        try clear c76b1
        try clear c76b2
        try clear c77
        try clear c77b0
        try clear c77b1
        try clear c77b2
        try clear c78
        try clear c78b0
        try clear c78b1
        try clear c78b2
        try clear c79
        try clear c80
        try clear c81
        try clear c83
        try clear c84
        try clear c86
        try clear hcz17_0
        try clear hcz17_1
        try clear hcz21_0
        try clear hcz21_1
        try clear hcz26_0
        try clear hcz26_1
        try clear hcz32_0
        try clear hcz32_1
        try clear hcz82_0
        try clear hcz82_1
        try clear hcz85_0
        try clear hcz85_1
        try clear hcz87_0
        try clear hcz87_1
        try clear hcz88_0
        try clear hcz88_1
        try clear hfz17_0
        try clear hfz17_1
        try clear hfz21_0
        try clear hfz21_1
        try clear hfz26_0
        try clear hfz26_1
        try clear hfz32_0
        try clear hfz32_1
        try clear hfz82_0
        try clear hfz82_1
        try clear hfz85_0
        try clear hfz85_1
        try clear hfz87_0
        try clear hfz87_1
        try clear hfz88_0
        try clear hfz88_1
        try clear p2
        try clear p6
        try clear p64
        obtain ⟨kq, x18_74, rfl, HA, HJ74, HO_1, BK187, BK191, BK195, BK199, HB⟩ := hcut
        cases kq with
        | zero => exact absurd HA.out (by simp [dialtonelaw12_sane.j3])
        | succ kj74 =>
         have H := HA.out
         clear HA
         simp only [dialtonelaw12_sane.j3] at H
         by_cases c89 : x16_39 = true
         rotate_left
         ·replace c89 := Bool.eq_false_iff.mpr c89
          subst c89
          rw [if_neg (show ¬ (false = true) by decide)] at H
          exact absurd H (by simp)
         subst c89
         rw [if_pos rfl] at H
         by_cases c90 : x17_53 = true
         rotate_left
         ·replace c90 := Bool.eq_false_iff.mpr c90
          subst c90
          rw [if_neg (show ¬ (false = true) by decide)] at H
          exact absurd H (by simp)
         subst c90
         rw [if_pos rfl] at H
         by_cases c91 : x18_74 = true
         rotate_left
         ·replace c91 := Bool.eq_false_iff.mpr c91
          subst c91
          rw [if_neg (show ¬ (false = true) by decide)] at H
          exact absurd H (by simp)
         subst c91
         rw [if_pos rfl] at H
         replace H := Option.bind_eq_some_iff.mp H
         obtain ⟨t211, A920, H⟩ := H
         try dsimp only at H
         have A92 := Aside0.mk A920
         clear A920
         by_cases c93 : t211 = true
         rotate_left
         ·replace c93 := Bool.eq_false_iff.mpr c93
          subst c93
          rw [if_neg (show ¬ (false = true) by decide)] at H
          exact absurd H (by simp)
         subst c93
         rw [if_pos rfl] at H
         replace H := Option.bind_eq_some_iff.mp H
         obtain ⟨t212, A940, H⟩ := H
         try dsimp only at H
         have A94 := Aside0.mk A940
         clear A940
         by_cases c95 : t212 = true
         ·subst c95
          rw [if_pos rfl] at H
          exact absurd H (by simp)
         replace c95 := Bool.eq_false_iff.mpr c95
         subst c95
         rw [if_neg (show ¬ (false = true) by decide)] at H
         replace H := Option.bind_eq_some_iff.mp H
         obtain ⟨t213, A960, H⟩ := H
         try dsimp only at H
         have A96 := Aside0.mk A960
         clear A960
         by_cases c97 : t213 = true
         rotate_left
         ·replace c97 := Bool.eq_false_iff.mpr c97
          subst c97
          rw [if_neg (show ¬ (false = true) by decide)] at H
          exact absurd H (by simp)
         subst c97
         rw [if_pos rfl] at H
         obtain ⟨y214, hy214⟩ : ∃ y_ : List (S29), y_ = (([(⟨(⟨#[50]⟩ : ByteArray), (⟨#[50, 49]⟩ : ByteArray), 4⟩ : S29)] : List (S29))) := ⟨_, rfl⟩
         replace H : ((plan_Valid.f kj74 y214).bind fun t217 => (some (!t217))) = some r := by first | (rw [hy214]; with_reducible exact H) | (have H2_ := (Option.bind_some _ _).symm.trans H; rw [hy214]; with_reducible exact H2_) | (have H2_ := (Option.bind_some _ _).symm.trans H; with_reducible exact H2_) | with_reducible exact H | (rw [hy214]; exact H) | exact H
         have Ny214 := Aside0.mk hy214
         clear hy214
         replace H := Option.bind_eq_some_iff.mp H
         obtain ⟨t217, A980, H⟩ := H
         try dsimp only at H
         have A98 := Aside0.mk A980
         clear A980
         obtain rfl := Option.some.inj H
         go_wp2_with (first | (go_at_call 23; (with_reducible refine (plan_Same.calls kj74 _ _ t175 (⟨#[50, 49, 50, 51, 52]⟩ : ByteArray) (⟨#[56, 50, 48, 48, 49, 50, 51, 52]⟩ : ByteArray) true _ ?side1 ?side2 A92.out).mono ?_); (case side1 => exact zq78); (case side2 => exact zq79); rintro e w99 ⟨rfl, hb⟩; replace HO_1 := Aside0.mk (Kd.R_below (zq75) hb); replace BK187 := Aside0.mk (blk_below (g := gb187) (o := .cells #[.int .i64 t184, .int .i64 t185] 40 (0, 0)) (zq63) hb); replace BK191 := Aside0.mk (blk_below (g := gb191) (o := .cells #[.int .i64 t188, .int .i64 t189] 40 (0, 0)) (zq69) hb); replace BK195 := Aside0.mk (blk_below (g := gb195) (o := .cells #[.int .i64 t192, .int .i64 t193] 40 (0, 0)) (zq74) hb); replace BK199 := Aside0.mk (blk_below (g := gb199) (o := .cells #[.int .i64 t196, .int .i64 t197] 40 (0, 0)) (zq76) hb); replace HB := Aside0.mk (below_step (zq77) hb); (try clear hb); (try clear hb2); (try clear hk); (try clear hi)) | (go_at_call 23; (with_reducible refine (plan_Same.calls kj74 _ _ t175 (⟨#[50, 49, 50, 51, 52]⟩ : ByteArray) (⟨#[56, 50, 48, 48, 49, 50, 51, 53]⟩ : ByteArray) false _ ?side1 ?side2 A94.out).mono ?_); (case side1 => exact zq78); (case side2 => exact zq79); rintro e w100 ⟨rfl, hb⟩; replace HO_1 := Aside0.mk (Kd.R_below (zq75) hb); replace BK187 := Aside0.mk (blk_below (g := gb187) (o := .cells #[.int .i64 t184, .int .i64 t185] 40 (0, 0)) (zq63) hb); replace BK191 := Aside0.mk (blk_below (g := gb191) (o := .cells #[.int .i64 t188, .int .i64 t189] 40 (0, 0)) (zq69) hb); replace BK195 := Aside0.mk (blk_below (g := gb195) (o := .cells #[.int .i64 t192, .int .i64 t193] 40 (0, 0)) (zq74) hb); replace BK199 := Aside0.mk (blk_below (g := gb199) (o := .cells #[.int .i64 t196, .int .i64 t197] 40 (0, 0)) (zq76) hb); replace HB := Aside0.mk (below_step (zq77) hb); (try clear hb); (try clear hb2); (try clear hk); (try clear hi)) | (go_at_call 25; (with_reducible refine (plan_Valid.calls kj74 _ _ t175 true _ ?side1 ?side2 A96.out).mono ?_); (case side1 => exact zq78); (case side2 => exact zq79); rintro e w101 ⟨rfl, hb⟩; replace HO_1 := Aside0.mk (Kd.R_below (zq75) hb); replace BK187 := Aside0.mk (blk_below (g := gb187) (o := .cells #[.int .i64 t184, .int .i64 t185] 40 (0, 0)) (zq63) hb); replace BK191 := Aside0.mk (blk_below (g := gb191) (o := .cells #[.int .i64 t188, .int .i64 t189] 40 (0, 0)) (zq69) hb); replace BK195 := Aside0.mk (blk_below (g := gb195) (o := .cells #[.int .i64 t192, .int .i64 t193] 40 (0, 0)) (zq74) hb); replace BK199 := Aside0.mk (blk_below (g := gb199) (o := .cells #[.int .i64 t196, .int .i64 t197] 40 (0, 0)) (zq76) hb); replace HB := Aside0.mk (below_step (zq77) hb); (try clear hb); (try clear hb2); (try clear hk); (try clear hi)) | ((with_reducible refine gate_dst (N := 165) rfl ?_); (try (refine gate_guard (by rfl) ?_; dsimp only)); refine Kd.R_lit k29 _ 29 ?hg (N := 165) ?hd (xs := ([(⟨(⟨#[50]⟩ : ByteArray), (⟨#[50, 49]⟩ : ByteArray), 4⟩ : S29)] : List (S29))) (inner := [.string (⟨#[50]⟩ : ByteArray), .string (⟨#[50, 49]⟩ : ByteArray), .int .i64 4]) (ok := fun _ => True) (okp := fun _ => True) ?hr ?hp (fun _ hk => hk) trivial (Below.refl _ _) (Nat.le_refl _) (by simp) ?_; (case hd => rfl); (case hg => rfl); (case hr => exact zq3); (case hp => exact (Reps.c3 (show Kd.M k29 _ _ _ (⟨(⟨#[50]⟩ : ByteArray), (⟨#[50, 49]⟩ : ByteArray), 4⟩ : S29) [.string (⟨#[50]⟩ : ByteArray), .string (⟨#[50, 49]⟩ : ByteArray), .int .i64 4] from (k29_mkM _ _ _ (⟨(⟨#[50]⟩ : ByteArray), (⟨#[50, 49]⟩ : ByteArray), 4⟩ : S29) )) (Reps.none _ _))); intro v215 w102 ho103 hb hg_ hnew_; clear hg_ hnew_; (first | rw [← Ny214.out] at ho103 | (simp only [Int.reduceToNat] at ho103; rw [← Ny214.out] at ho103)); have HO216 := Aside0.mk (Kd.R_lower (Kd.R_new' ho103 (Kd.R_lt (zq75))) (below_size (zq77))); replace HO_1 := Aside0.mk (Kd.R_elder' (zq75) (Kd.R_base ho103) hb); replace BK187 := Aside0.mk (blk_below (g := gb187) (o := .cells #[.int .i64 t184, .int .i64 t185] 40 (0, 0)) (zq63) hb); replace BK191 := Aside0.mk (blk_below (g := gb191) (o := .cells #[.int .i64 t188, .int .i64 t189] 40 (0, 0)) (zq69) hb); replace BK195 := Aside0.mk (blk_below (g := gb195) (o := .cells #[.int .i64 t192, .int .i64 t193] 40 (0, 0)) (zq74) hb); replace BK199 := Aside0.mk (blk_below (g := gb199) (o := .cells #[.int .i64 t196, .int .i64 t197] 40 (0, 0)) (zq76) hb); replace HB := Aside0.mk (below_step (zq77) hb); clear hb ho103; obtain ⟨Ao104, co104, eo104⟩ := Kd.R_slice HO216.out; subst eo104) | (go_at_call 25; (with_reducible refine (plan_Valid.calls kj74 _ _ y214 t217 _ ?side1 ?side2 A98.out).mono ?_); (case side1 => repeat (first | exact (Kd.R_reads' HO216.out).2.2 | (with_reducible refine Kd.C_alloc ?_ _) | (with_reducible refine Kd.C_drewN ?_ _) | (with_reducible refine Kd.C_drew ?_))); (case side2 => exact (Kd.R_reads' HO216.out).2.1); rintro e w105 ⟨rfl, hb⟩; replace HO_1 := Aside0.mk (Kd.R_below (zq75) hb); replace HO216 := Aside0.mk (Kd.R_below (by (with_reducible repeat (first | apply Kd.R_alloc | apply Kd.R_drewN | apply Kd.R_drew)); exact HO216.out) hb); replace BK187 := Aside0.mk (blk_below (g := gb187) (o := .cells #[.int .i64 t184, .int .i64 t185] 40 (0, 0)) (zq63) hb); replace BK191 := Aside0.mk (blk_below (g := gb191) (o := .cells #[.int .i64 t188, .int .i64 t189] 40 (0, 0)) (zq69) hb); replace BK195 := Aside0.mk (blk_below (g := gb195) (o := .cells #[.int .i64 t192, .int .i64 t193] 40 (0, 0)) (zq74) hb); replace BK199 := Aside0.mk (blk_below (g := gb199) (o := .cells #[.int .i64 t196, .int .i64 t197] 40 (0, 0)) (zq76) hb); replace HB := Aside0.mk (below_step (zq77) hb); (try clear hb); (try clear hb2); (try clear hk); (try clear hi)))
         go_ret
         exact ⟨zq6, zq77⟩
end Go.Proofs.YtlmfoblgheepoaaGreatDoor.Pl
end
section
open Go.Proofs.YtlmfoblgheepoaaGreatDoor.Z
namespace Go.Proofs.YtlmfoblgheepoaaGreatDoor.Pl
open Go.RowKit Go.Proofs.YtlmfoblgheepoaaGreatDoorW.PrintWords Go.Proofs.YtlmfoblgheepoaaGreatDoorW.PrintLast Go.Proofs.YtlmfoblgheepoaaGreatDoorW.PrintMore
attribute [local go_sem] max2_int min2_int max_two min_two max_three min_three max_four min_four
set_option linter.unusedVariables false
set_option linter.unusedSimpArgs false
def dialtoneref12_digits.l0 : Nat → ByteArray → Int → Option (Bool)
 | 0, _, _ => none
 | k + 1, x0, x3 => if x3 < (x0.size : Int) then (if 0 ≤ x3 then (if (bt x0 x3) < 48 then (some false) else (if (bt x0 x3) > 57 then (some false) else (dialtoneref12_digits.l0 k x0 (wrap64 (x3 + 1))))) else (none)) else (some true)
def dialtoneref12_digits.f (k : Nat) (a0 : ByteArray) : Option (Bool) := dialtoneref12_digits.l0 k a0 0
set_option maxHeartbeats 8000000 in
set_option maxRecDepth 100000 in
theorem dialtoneref12_digits.calls (k : Nat) (a0 : ByteArray) (r : Bool) (w : World) (h : dialtoneref12_digits.f k a0 = some r) :
 Calls Tryz.prog 51 #[.string a0] w fun e w' => e = .returned (.bool r) ∧ Drawn0 w w' := by
 have H : (dialtoneref12_digits.l0 k a0 0) = some r := h
 clear h
 have H' := Aside0.mk H
 clear H
 go_enter Tryz.func51, Tryz.ntmps51
 go_wp2
 go_loopg [3] k (fun kq v3 w' => ∃ (x3_1 : Int), v3 = .int .i64 x3_1 ∧ Aside0 (dialtoneref12_digits.l0 kq a0 x3_1 = some r) ∧ Aside0 (kq ≤ k) ∧ Drawn0 w w')
 case atStart => exact ⟨(0), (zq1), H', ⟨Nat.le_refl _⟩, zq2⟩
 case round =>
  clear H'
  obtain ⟨x3_1, rfl, HA, HK1, ⟨m1, rfl⟩⟩ := hrel
  cases gk with
  | zero => exact absurd HA.out (by simp [dialtoneref12_digits.l0])
  | succ k1 =>
   have H := HA.out
   clear HA
   simp only [dialtoneref12_digits.l0] at H
   by_cases c2 : x3_1 < (a0.size : Int)
   rotate_left
   ·rw [if_neg c2] at H
    have c2b0 : decide (x3_1 < (a0.size : Int)) = false := decide_eq_false c2
    clear c2
    obtain rfl := Option.some.inj H
    go_wp2
    go_ret
    exact ⟨zq1, zq2⟩
   rw [if_pos c2] at H
   have c2b0 : decide (x3_1 < (a0.size : Int)) = true := decide_eq_true c2
   clear c2
   by_cases c3 : 0 ≤ x3_1
   rotate_left
   ·rw [if_neg c3] at H
    exact absurd H (by simp)
   rw [if_pos c3] at H
   have c3b0 : decide (0 ≤ x3_1) = true := decide_eq_true c3
   clear c3
   by_cases c5 : (bt a0 x3_1) < 48
   ·rw [if_pos c5] at H
    have c5b0 : decide ((bt a0 x3_1) < 48) = true := decide_eq_true c5
    clear c5
    obtain rfl := Option.some.inj H
    have p4 : 0 ≤ (x3_1 : Int) := of_decide_eq_true (zq18)
    have q4 : x3_1 < (a0.size : Int) := of_decide_eq_true (zq18)
    have hx4 := bt_at a0 x3_1
    replace p4 := eq_true p4
    replace q4 := eq_true q4
    go_wp2
    go_ret
    exact ⟨zq1, zq2⟩
   rw [if_neg c5] at H
   have c5b0 : decide ((bt a0 x3_1) < 48) = false := decide_eq_false c5
   clear c5
   by_cases c7 : (bt a0 x3_1) > 57
   ·rw [if_pos c7] at H
    have c7b0 : decide (57 < (bt a0 x3_1)) = true := decide_eq_true c7
    clear c7
    obtain rfl := Option.some.inj H
    have p4 : 0 ≤ (x3_1 : Int) := of_decide_eq_true (zq18)
    have q4 : x3_1 < (a0.size : Int) := of_decide_eq_true (zq18)
    have hx4 := bt_at a0 x3_1
    replace p4 := eq_true p4
    replace q4 := eq_true q4
    have p6 : 0 ≤ (x3_1 : Int) := of_decide_eq_true (zq18)
    have q6 : x3_1 < (a0.size : Int) := of_decide_eq_true (zq18)
    have hx6 := bt_at a0 x3_1
    replace p6 := eq_true p6
    replace q6 := eq_true q6
    go_wp2
    go_ret
    exact ⟨zq1, zq2⟩
   rw [if_neg c7] at H
   have c7b0 : decide (57 < (bt a0 x3_1)) = false := decide_eq_false c7
   clear c7
   have H' := Aside0.mk H
   clear H
   have p4 : 0 ≤ (x3_1 : Int) := of_decide_eq_true (zq18)
   have q4 : x3_1 < (a0.size : Int) := of_decide_eq_true (zq18)
   have hx4 := bt_at a0 x3_1
   replace p4 := eq_true p4
   replace q4 := eq_true q4
   have p6 : 0 ≤ (x3_1 : Int) := of_decide_eq_true (zq18)
   have q6 : x3_1 < (a0.size : Int) := of_decide_eq_true (zq18)
   have hx6 := bt_at a0 x3_1
   replace p6 := eq_true p6
   replace q6 := eq_true q6
   go_wp2
   go_roundg k1
   case measure => have := HK1.out; omega
   case rel => exact ⟨(wrap64 (x3_1 + 1)), (zq1), H', ⟨zq32⟩, zq2⟩
def dialtoneref12_begins.f (a0 : ByteArray) (a1 : ByteArray) : Option (Bool) := if (a0.size : Int) ≤ (a1.size : Int) then (if 0 ≤ (a0.size : Int) then (some ((a1.extract 0 ((a0.size : Int) : Int).toNat).toList == a0.toList)) else (none)) else (some false)
set_option maxHeartbeats 8000000 in
set_option maxRecDepth 100000 in
theorem dialtoneref12_begins.calls (a0 : ByteArray) (a1 : ByteArray) (r : Bool) (w : World) (h : dialtoneref12_begins.f a0 a1 = some r) :
 Calls Tryz.prog 52 #[.string a0, .string a1] w fun e w' => e = .returned (.bool r) ∧ Drawn0 w w' := by
 have H : (if (a0.size : Int) ≤ (a1.size : Int) then (if 0 ≤ (a0.size : Int) then (some ((a1.extract 0 ((a0.size : Int) : Int).toNat).toList == a0.toList)) else (none)) else (some false)) = some r := h
 clear h
 by_cases c3 : (a0.size : Int) ≤ (a1.size : Int)
 rotate_left
 ·rw [if_neg c3] at H
  have c3b0 : decide ((a0.size : Int) ≤ (a1.size : Int)) = false := decide_eq_false c3
  have c3b1 : decide (a0.size ≤ a1.size) = false := decide_eq_false (fun h => c3 (Int.ofNat_le.mpr h))
  clear c3
  obtain rfl := Option.some.inj H
  go_enter Tryz.func52, Tryz.ntmps52
  go_wp2
  go_ret
  exact ⟨zq1, zq2⟩
 rw [if_pos c3] at H
 have c3b0 : decide ((a0.size : Int) ≤ (a1.size : Int)) = true := decide_eq_true c3
 have c3b1 : decide (a0.size ≤ a1.size) = true := decide_eq_true (Int.ofNat_le.mp c3)
 clear c3
 by_cases c4 : 0 ≤ (a0.size : Int)
 rotate_left
 ·rw [if_neg c4] at H
  exact absurd H (by simp)
 rw [if_pos c4] at H
 have c4b0 := eq_true c4
 have c4b1 : decide (0 ≤ (a0.size : Int)) = true := decide_eq_true c4
 clear c4
 have c5b0 := eq_true (of_decide_eq_true (zq18) : (a0.size : Int) ≤ (a1.size : Int))
 obtain rfl := Option.some.inj H
 go_enter Tryz.func52, Tryz.ntmps52
 go_wp2
 go_ret
 exact ⟨zq1, zq2⟩
def dialtoneref12_apart.f (a0 : ByteArray) (a1 : ByteArray) : Option (Bool) := (dialtoneref12_begins.f a0 a1).bind fun t218 => (if t218 = true then (some false) else ((dialtoneref12_begins.f a1 a0).bind fun t219 => (some (!t219))))
set_option maxHeartbeats 8000000 in
set_option maxRecDepth 100000 in
theorem dialtoneref12_apart.calls (a0 : ByteArray) (a1 : ByteArray) (r : Bool) (w : World) (h : dialtoneref12_apart.f a0 a1 = some r) :
 Calls Tryz.prog 59 #[.string a0, .string a1] w fun e w' => e = .returned (.bool r) ∧ Drawn0 w w' := by
 have H : ((dialtoneref12_begins.f a0 a1).bind fun t218 => (if t218 = true then (some false) else ((dialtoneref12_begins.f a1 a0).bind fun t219 => (some (!t219))))) = some r := h
 clear h
 replace H := Option.bind_eq_some_iff.mp H
 obtain ⟨t218, A30, H⟩ := H
 try dsimp only at H
 have A3 := Aside0.mk A30
 clear A30
 by_cases c4 : t218 = true
 ·subst c4
  rw [if_pos rfl] at H
  obtain rfl := Option.some.inj H
  go_enter Tryz.func59, Tryz.ntmps59
  go_wp2_with (first | ((with_reducible refine gate_callee (f := 52) rfl ?_); refine goesL_ (some 7) rfl rfl Tryz.func52 (by kernel_rfl) rfl #[.string a0, .string a1] rfl (zq7) ?_; (with_reducible refine (dialtoneref12_begins.calls a0 a1 true _ A3.out).mono ?_); rintro e w' ⟨rfl, ⟨nd, rfl⟩⟩; refine ⟨_, rfl, ?_⟩))
  go_ret
  exact ⟨zq1, zq2⟩
 replace c4 := Bool.eq_false_iff.mpr c4
 subst c4
 rw [if_neg (show ¬ (false = true) by decide)] at H
 replace H := Option.bind_eq_some_iff.mp H
 obtain ⟨t219, A50, H⟩ := H
 try dsimp only at H
 have A5 := Aside0.mk A50
 clear A50
 obtain rfl := Option.some.inj H
 go_enter Tryz.func59, Tryz.ntmps59
 go_wp2_with (first | ((with_reducible refine gate_callee (f := 52) rfl ?_); refine goesL_ (some 7) rfl rfl Tryz.func52 (by kernel_rfl) rfl #[.string a0, .string a1] rfl (zq7) ?_; (with_reducible refine (dialtoneref12_begins.calls a0 a1 false _ A3.out).mono ?_); rintro e w' ⟨rfl, ⟨nd, rfl⟩⟩; refine ⟨_, rfl, ?_⟩) | (go_at_call 52; (with_reducible refine (dialtoneref12_begins.calls a1 a0 t219 _ A5.out).mono ?_); rintro e w' ⟨rfl, ⟨nd, rfl⟩⟩))
 go_ret
 exact ⟨zq1, zq2⟩
def dialtoneref12_one.f (k : Nat) (a0_0 : ByteArray) (a0_1 : ByteArray) (a0_2 : Int) : Option (Bool) := (dialtoneref12_digits.f k a0_0).bind fun t221 => (if t221 = true then ((dialtoneref12_digits.f k a0_1).bind fun t222 => (if t222 = true then (if (a0_0.size : Int) < 1 then (some false) else (if (a0_0.size : Int) > 4 then (some false) else (if (a0_1.size : Int) < 1 then (some false) else (if (a0_1.size : Int) > 5 then (some false) else (if a0_2 > (a0_0.size : Int) then (if a0_2 ≤ 7 then (if (wrap64 (a0_2 - (a0_0.size : Int))) ≤ (wrap64 (8 - (a0_1.size : Int))) then ((dialtoneref12_apart.f a0_0 a0_1).bind fun t223 => (some t223)) else (some false)) else (some false)) else (some false)))))) else (some false))) else (some false))
set_option maxHeartbeats 8000000 in
set_option maxRecDepth 100000 in
theorem dialtoneref12_one.calls (k : Nat) (a0_0 : ByteArray) (a0_1 : ByteArray) (a0_2 : Int) (r : Bool) (w : World) (h : dialtoneref12_one.f k a0_0 a0_1 a0_2 = some r) :
 Calls Tryz.prog 58 #[.agg #[.string a0_0, .string a0_1, .int .i64 a0_2]] w fun e w' => e = .returned (.bool r) ∧ Below w.heap.size w w' := by
 have hu29 := Tryz.underlying29
 have HB := Aside0.mk (Below.refl w.heap.size w)
 have H : ((dialtoneref12_digits.f k a0_0).bind fun t221 => (if t221 = true then ((dialtoneref12_digits.f k a0_1).bind fun t222 => (if t222 = true then (if (a0_0.size : Int) < 1 then (some false) else (if (a0_0.size : Int) > 4 then (some false) else (if (a0_1.size : Int) < 1 then (some false) else (if (a0_1.size : Int) > 5 then (some false) else (if a0_2 > (a0_0.size : Int) then (if a0_2 ≤ 7 then (if (wrap64 (a0_2 - (a0_0.size : Int))) ≤ (wrap64 (8 - (a0_1.size : Int))) then ((dialtoneref12_apart.f a0_0 a0_1).bind fun t223 => (some t223)) else (some false)) else (some false)) else (some false)))))) else (some false))) else (some false))) = some r := h
 clear h
 replace H := Option.bind_eq_some_iff.mp H
 obtain ⟨t221, A20, H⟩ := H
 try dsimp only at H
 have A2 := Aside0.mk A20
 clear A20
 by_cases c3 : t221 = true
 rotate_left
 ·replace c3 := Bool.eq_false_iff.mpr c3
  subst c3
  rw [if_neg (show ¬ (false = true) by decide)] at H
  obtain rfl := Option.some.inj H
  go_enter Tryz.func58, Tryz.ntmps58
  go_wp2_with (first | ((with_reducible refine gate_dst (N := 1) rfl ?_); (try (refine gate_guard (by rfl) ?_; dsimp only)); refine box_event ?hg (N := 1) ?hd (cs := #[.string a0_0, .string a0_1, .int .i64 a0_2]) (t := 29) ?hr ?_; (case hd => rfl); (case hg => rfl); (case hr => exact zq3); intro gb220 hg w32 hbox hb; have BK220 := Aside0.mk (hbox); have GW220 := Aside0.mk ((zq4 : w.heap.size ≤ gb220)); have GE220 := Aside0.mk ((zq4 : w.heap.size ≤ gb220)); replace HB := Aside0.mk (below_step (zq5) hb); clear hb hbox hg; have hcz33_0 : w32.cell? ⟨gb220, 0, none⟩ = some (.string a0_0) := (blk_cell BK220.out 0).trans rfl; have hcz33_1 : w32.cell? ⟨gb220, 1, none⟩ = some (.string a0_1) := (blk_cell BK220.out 1).trans rfl; have hcz33_2 : w32.cell? ⟨gb220, 2, none⟩ = some (.int .i64 a0_2) := (blk_cell BK220.out 2).trans rfl; have hfz33_0 := blk_frozen BK220.out 0; have hfz33_1 := blk_frozen BK220.out 1; have hfz33_2 := blk_frozen BK220.out 2) | ((with_reducible refine gate_callee (f := 51) rfl ?_); refine goesL_ (some 5) rfl rfl Tryz.func51 (by kernel_rfl) rfl #[.string a0_0] rfl (zq7) ?_; (with_reducible refine (dialtoneref12_digits.calls k a0_0 false _ A2.out).mono ?_); rintro e w' ⟨rfl, ⟨nd, rfl⟩⟩; refine ⟨_, rfl, ?_⟩))
  go_ret
  exact ⟨zq6, zq80⟩
 subst c3
 rw [if_pos rfl] at H
 replace H := Option.bind_eq_some_iff.mp H
 obtain ⟨t222, A40, H⟩ := H
 try dsimp only at H
 have A4 := Aside0.mk A40
 clear A40
 by_cases c5 : t222 = true
 rotate_left
 ·replace c5 := Bool.eq_false_iff.mpr c5
  subst c5
  rw [if_neg (show ¬ (false = true) by decide)] at H
  obtain rfl := Option.some.inj H
  go_enter Tryz.func58, Tryz.ntmps58
  go_wp2_with (first | ((with_reducible refine gate_dst (N := 1) rfl ?_); (try (refine gate_guard (by rfl) ?_; dsimp only)); refine box_event ?hg (N := 1) ?hd (cs := #[.string a0_0, .string a0_1, .int .i64 a0_2]) (t := 29) ?hr ?_; (case hd => rfl); (case hg => rfl); (case hr => exact zq3); intro gb220 hg w30 hbox hb; have BK220 := Aside0.mk (hbox); have GW220 := Aside0.mk ((zq4 : w.heap.size ≤ gb220)); have GE220 := Aside0.mk ((zq4 : w.heap.size ≤ gb220)); replace HB := Aside0.mk (below_step (zq5) hb); clear hb hbox hg; have hcz31_0 : w30.cell? ⟨gb220, 0, none⟩ = some (.string a0_0) := (blk_cell BK220.out 0).trans rfl; have hcz31_1 : w30.cell? ⟨gb220, 1, none⟩ = some (.string a0_1) := (blk_cell BK220.out 1).trans rfl; have hcz31_2 : w30.cell? ⟨gb220, 2, none⟩ = some (.int .i64 a0_2) := (blk_cell BK220.out 2).trans rfl; have hfz31_0 := blk_frozen BK220.out 0; have hfz31_1 := blk_frozen BK220.out 1; have hfz31_2 := blk_frozen BK220.out 2) | ((with_reducible refine gate_callee (f := 51) rfl ?_); refine goesL_ (some 5) rfl rfl Tryz.func51 (by kernel_rfl) rfl #[.string a0_0] rfl (zq7) ?_; (with_reducible refine (dialtoneref12_digits.calls k a0_0 true _ A2.out).mono ?_); rintro e w' ⟨rfl, ⟨nd, rfl⟩⟩; refine ⟨_, rfl, ?_⟩) | (go_at_call 51; (with_reducible refine (dialtoneref12_digits.calls k a0_1 false _ A4.out).mono ?_); rintro e w' ⟨rfl, ⟨nd, rfl⟩⟩))
  go_ret
  exact ⟨zq6, zq80⟩
 subst c5
 rw [if_pos rfl] at H
 by_cases c6 : (a0_0.size : Int) < 1
 ·rw [if_pos c6] at H
  have c6b0 : decide ((a0_0.size : Int) < 1) = true := decide_eq_true c6
  have c6b1 : decide (a0_0.size < 1) = true := decide_eq_true (by omega)
  clear c6
  obtain rfl := Option.some.inj H
  go_enter Tryz.func58, Tryz.ntmps58
  go_wp2_with (first | ((with_reducible refine gate_dst (N := 1) rfl ?_); (try (refine gate_guard (by rfl) ?_; dsimp only)); refine box_event ?hg (N := 1) ?hd (cs := #[.string a0_0, .string a0_1, .int .i64 a0_2]) (t := 29) ?hr ?_; (case hd => rfl); (case hg => rfl); (case hr => exact zq3); intro gb220 hg w7 hbox hb; have BK220 := Aside0.mk (hbox); have GW220 := Aside0.mk ((zq4 : w.heap.size ≤ gb220)); have GE220 := Aside0.mk ((zq4 : w.heap.size ≤ gb220)); replace HB := Aside0.mk (below_step (zq5) hb); clear hb hbox hg; have hcz8_0 : w7.cell? ⟨gb220, 0, none⟩ = some (.string a0_0) := (blk_cell BK220.out 0).trans rfl; have hcz8_1 : w7.cell? ⟨gb220, 1, none⟩ = some (.string a0_1) := (blk_cell BK220.out 1).trans rfl; have hcz8_2 : w7.cell? ⟨gb220, 2, none⟩ = some (.int .i64 a0_2) := (blk_cell BK220.out 2).trans rfl; have hfz8_0 := blk_frozen BK220.out 0; have hfz8_1 := blk_frozen BK220.out 1; have hfz8_2 := blk_frozen BK220.out 2) | ((with_reducible refine gate_callee (f := 51) rfl ?_); refine goesL_ (some 5) rfl rfl Tryz.func51 (by kernel_rfl) rfl #[.string a0_0] rfl (zq7) ?_; (with_reducible refine (dialtoneref12_digits.calls k a0_0 true _ A2.out).mono ?_); rintro e w' ⟨rfl, ⟨nd, rfl⟩⟩; refine ⟨_, rfl, ?_⟩) | (go_at_call 51; (with_reducible refine (dialtoneref12_digits.calls k a0_1 true _ A4.out).mono ?_); rintro e w' ⟨rfl, ⟨nd, rfl⟩⟩))
  go_ret
  exact ⟨zq6, zq80⟩
 rw [if_neg c6] at H
 have c6b0 : decide ((a0_0.size : Int) < 1) = false := decide_eq_false c6
 have c6b1 : decide (a0_0.size < 1) = false := decide_eq_false (by omega)
 clear c6
 by_cases c9 : (a0_0.size : Int) > 4
 ·rw [if_pos c9] at H
  have c9b0 : decide (4 < (a0_0.size : Int)) = true := decide_eq_true c9
  have c9b1 : decide (4 < a0_0.size) = true := decide_eq_true (by omega)
  clear c9
  obtain rfl := Option.some.inj H
  go_enter Tryz.func58, Tryz.ntmps58
  go_wp2_with (first | ((with_reducible refine gate_dst (N := 1) rfl ?_); (try (refine gate_guard (by rfl) ?_; dsimp only)); refine box_event ?hg (N := 1) ?hd (cs := #[.string a0_0, .string a0_1, .int .i64 a0_2]) (t := 29) ?hr ?_; (case hd => rfl); (case hg => rfl); (case hr => exact zq3); intro gb220 hg w10 hbox hb; have BK220 := Aside0.mk (hbox); have GW220 := Aside0.mk ((zq4 : w.heap.size ≤ gb220)); have GE220 := Aside0.mk ((zq4 : w.heap.size ≤ gb220)); replace HB := Aside0.mk (below_step (zq5) hb); clear hb hbox hg; have hcz11_0 : w10.cell? ⟨gb220, 0, none⟩ = some (.string a0_0) := (blk_cell BK220.out 0).trans rfl; have hcz11_1 : w10.cell? ⟨gb220, 1, none⟩ = some (.string a0_1) := (blk_cell BK220.out 1).trans rfl; have hcz11_2 : w10.cell? ⟨gb220, 2, none⟩ = some (.int .i64 a0_2) := (blk_cell BK220.out 2).trans rfl; have hfz11_0 := blk_frozen BK220.out 0; have hfz11_1 := blk_frozen BK220.out 1; have hfz11_2 := blk_frozen BK220.out 2) | ((with_reducible refine gate_callee (f := 51) rfl ?_); refine goesL_ (some 5) rfl rfl Tryz.func51 (by kernel_rfl) rfl #[.string a0_0] rfl (zq7) ?_; (with_reducible refine (dialtoneref12_digits.calls k a0_0 true _ A2.out).mono ?_); rintro e w' ⟨rfl, ⟨nd, rfl⟩⟩; refine ⟨_, rfl, ?_⟩) | (go_at_call 51; (with_reducible refine (dialtoneref12_digits.calls k a0_1 true _ A4.out).mono ?_); rintro e w' ⟨rfl, ⟨nd, rfl⟩⟩))
  go_ret
  exact ⟨zq6, zq80⟩
 rw [if_neg c9] at H
 have c9b0 : decide (4 < (a0_0.size : Int)) = false := decide_eq_false c9
 have c9b1 : decide (4 < a0_0.size) = false := decide_eq_false (by omega)
 clear c9
 by_cases c12 : (a0_1.size : Int) < 1
 ·rw [if_pos c12] at H
  have c12b0 : decide ((a0_1.size : Int) < 1) = true := decide_eq_true c12
  have c12b1 : decide (a0_1.size < 1) = true := decide_eq_true (by omega)
  clear c12
  obtain rfl := Option.some.inj H
  go_enter Tryz.func58, Tryz.ntmps58
  go_wp2_with (first | ((with_reducible refine gate_dst (N := 1) rfl ?_); (try (refine gate_guard (by rfl) ?_; dsimp only)); refine box_event ?hg (N := 1) ?hd (cs := #[.string a0_0, .string a0_1, .int .i64 a0_2]) (t := 29) ?hr ?_; (case hd => rfl); (case hg => rfl); (case hr => exact zq3); intro gb220 hg w13 hbox hb; have BK220 := Aside0.mk (hbox); have GW220 := Aside0.mk ((zq4 : w.heap.size ≤ gb220)); have GE220 := Aside0.mk ((zq4 : w.heap.size ≤ gb220)); replace HB := Aside0.mk (below_step (zq5) hb); clear hb hbox hg; have hcz14_0 : w13.cell? ⟨gb220, 0, none⟩ = some (.string a0_0) := (blk_cell BK220.out 0).trans rfl; have hcz14_1 : w13.cell? ⟨gb220, 1, none⟩ = some (.string a0_1) := (blk_cell BK220.out 1).trans rfl; have hcz14_2 : w13.cell? ⟨gb220, 2, none⟩ = some (.int .i64 a0_2) := (blk_cell BK220.out 2).trans rfl; have hfz14_0 := blk_frozen BK220.out 0; have hfz14_1 := blk_frozen BK220.out 1; have hfz14_2 := blk_frozen BK220.out 2) | ((with_reducible refine gate_callee (f := 51) rfl ?_); refine goesL_ (some 5) rfl rfl Tryz.func51 (by kernel_rfl) rfl #[.string a0_0] rfl (zq7) ?_; (with_reducible refine (dialtoneref12_digits.calls k a0_0 true _ A2.out).mono ?_); rintro e w' ⟨rfl, ⟨nd, rfl⟩⟩; refine ⟨_, rfl, ?_⟩) | (go_at_call 51; (with_reducible refine (dialtoneref12_digits.calls k a0_1 true _ A4.out).mono ?_); rintro e w' ⟨rfl, ⟨nd, rfl⟩⟩))
  go_ret
  exact ⟨zq6, zq80⟩
 rw [if_neg c12] at H
 have c12b0 : decide ((a0_1.size : Int) < 1) = false := decide_eq_false c12
 have c12b1 : decide (a0_1.size < 1) = false := decide_eq_false (by omega)
 clear c12
 by_cases c15 : (a0_1.size : Int) > 5
 ·rw [if_pos c15] at H
  have c15b0 : decide (5 < (a0_1.size : Int)) = true := decide_eq_true c15
  have c15b1 : decide (5 < a0_1.size) = true := decide_eq_true (by omega)
  clear c15
  obtain rfl := Option.some.inj H
  go_enter Tryz.func58, Tryz.ntmps58
  go_wp2_with (first | ((with_reducible refine gate_dst (N := 1) rfl ?_); (try (refine gate_guard (by rfl) ?_; dsimp only)); refine box_event ?hg (N := 1) ?hd (cs := #[.string a0_0, .string a0_1, .int .i64 a0_2]) (t := 29) ?hr ?_; (case hd => rfl); (case hg => rfl); (case hr => exact zq3); intro gb220 hg w16 hbox hb; have BK220 := Aside0.mk (hbox); have GW220 := Aside0.mk ((zq4 : w.heap.size ≤ gb220)); have GE220 := Aside0.mk ((zq4 : w.heap.size ≤ gb220)); replace HB := Aside0.mk (below_step (zq5) hb); clear hb hbox hg; have hcz17_0 : w16.cell? ⟨gb220, 0, none⟩ = some (.string a0_0) := (blk_cell BK220.out 0).trans rfl; have hcz17_1 : w16.cell? ⟨gb220, 1, none⟩ = some (.string a0_1) := (blk_cell BK220.out 1).trans rfl; have hcz17_2 : w16.cell? ⟨gb220, 2, none⟩ = some (.int .i64 a0_2) := (blk_cell BK220.out 2).trans rfl; have hfz17_0 := blk_frozen BK220.out 0; have hfz17_1 := blk_frozen BK220.out 1; have hfz17_2 := blk_frozen BK220.out 2) | ((with_reducible refine gate_callee (f := 51) rfl ?_); refine goesL_ (some 5) rfl rfl Tryz.func51 (by kernel_rfl) rfl #[.string a0_0] rfl (zq7) ?_; (with_reducible refine (dialtoneref12_digits.calls k a0_0 true _ A2.out).mono ?_); rintro e w' ⟨rfl, ⟨nd, rfl⟩⟩; refine ⟨_, rfl, ?_⟩) | (go_at_call 51; (with_reducible refine (dialtoneref12_digits.calls k a0_1 true _ A4.out).mono ?_); rintro e w' ⟨rfl, ⟨nd, rfl⟩⟩))
  go_ret
  exact ⟨zq6, zq80⟩
 rw [if_neg c15] at H
 have c15b0 : decide (5 < (a0_1.size : Int)) = false := decide_eq_false c15
 have c15b1 : decide (5 < a0_1.size) = false := decide_eq_false (by omega)
 clear c15
 by_cases c18 : a0_2 > (a0_0.size : Int)
 rotate_left
 ·rw [if_neg c18] at H
  have c18b0 : decide ((a0_0.size : Int) < a0_2) = false := decide_eq_false c18
  clear c18
  obtain rfl := Option.some.inj H
  go_enter Tryz.func58, Tryz.ntmps58
  go_wp2_with (first | ((with_reducible refine gate_dst (N := 1) rfl ?_); (try (refine gate_guard (by rfl) ?_; dsimp only)); refine box_event ?hg (N := 1) ?hd (cs := #[.string a0_0, .string a0_1, .int .i64 a0_2]) (t := 29) ?hr ?_; (case hd => rfl); (case hg => rfl); (case hr => exact zq3); intro gb220 hg w28 hbox hb; have BK220 := Aside0.mk (hbox); have GW220 := Aside0.mk ((zq4 : w.heap.size ≤ gb220)); have GE220 := Aside0.mk ((zq4 : w.heap.size ≤ gb220)); replace HB := Aside0.mk (below_step (zq5) hb); clear hb hbox hg; have hcz29_0 : w28.cell? ⟨gb220, 0, none⟩ = some (.string a0_0) := (blk_cell BK220.out 0).trans rfl; have hcz29_1 : w28.cell? ⟨gb220, 1, none⟩ = some (.string a0_1) := (blk_cell BK220.out 1).trans rfl; have hcz29_2 : w28.cell? ⟨gb220, 2, none⟩ = some (.int .i64 a0_2) := (blk_cell BK220.out 2).trans rfl; have hfz29_0 := blk_frozen BK220.out 0; have hfz29_1 := blk_frozen BK220.out 1; have hfz29_2 := blk_frozen BK220.out 2) | ((with_reducible refine gate_callee (f := 51) rfl ?_); refine goesL_ (some 5) rfl rfl Tryz.func51 (by kernel_rfl) rfl #[.string a0_0] rfl (zq7) ?_; (with_reducible refine (dialtoneref12_digits.calls k a0_0 true _ A2.out).mono ?_); rintro e w' ⟨rfl, ⟨nd, rfl⟩⟩; refine ⟨_, rfl, ?_⟩) | (go_at_call 51; (with_reducible refine (dialtoneref12_digits.calls k a0_1 true _ A4.out).mono ?_); rintro e w' ⟨rfl, ⟨nd, rfl⟩⟩))
  go_ret
  exact ⟨zq6, zq80⟩
 rw [if_pos c18] at H
 have c18b0 : decide ((a0_0.size : Int) < a0_2) = true := decide_eq_true c18
 clear c18
 by_cases c19 : a0_2 ≤ 7
 rotate_left
 ·rw [if_neg c19] at H
  have c19b0 : decide (a0_2 ≤ 7) = false := decide_eq_false c19
  clear c19
  obtain rfl := Option.some.inj H
  go_enter Tryz.func58, Tryz.ntmps58
  go_wp2_with (first | ((with_reducible refine gate_dst (N := 1) rfl ?_); (try (refine gate_guard (by rfl) ?_; dsimp only)); refine box_event ?hg (N := 1) ?hd (cs := #[.string a0_0, .string a0_1, .int .i64 a0_2]) (t := 29) ?hr ?_; (case hd => rfl); (case hg => rfl); (case hr => exact zq3); intro gb220 hg w26 hbox hb; have BK220 := Aside0.mk (hbox); have GW220 := Aside0.mk ((zq4 : w.heap.size ≤ gb220)); have GE220 := Aside0.mk ((zq4 : w.heap.size ≤ gb220)); replace HB := Aside0.mk (below_step (zq5) hb); clear hb hbox hg; have hcz27_0 : w26.cell? ⟨gb220, 0, none⟩ = some (.string a0_0) := (blk_cell BK220.out 0).trans rfl; have hcz27_1 : w26.cell? ⟨gb220, 1, none⟩ = some (.string a0_1) := (blk_cell BK220.out 1).trans rfl; have hcz27_2 : w26.cell? ⟨gb220, 2, none⟩ = some (.int .i64 a0_2) := (blk_cell BK220.out 2).trans rfl; have hfz27_0 := blk_frozen BK220.out 0; have hfz27_1 := blk_frozen BK220.out 1; have hfz27_2 := blk_frozen BK220.out 2) | ((with_reducible refine gate_callee (f := 51) rfl ?_); refine goesL_ (some 5) rfl rfl Tryz.func51 (by kernel_rfl) rfl #[.string a0_0] rfl (zq7) ?_; (with_reducible refine (dialtoneref12_digits.calls k a0_0 true _ A2.out).mono ?_); rintro e w' ⟨rfl, ⟨nd, rfl⟩⟩; refine ⟨_, rfl, ?_⟩) | (go_at_call 51; (with_reducible refine (dialtoneref12_digits.calls k a0_1 true _ A4.out).mono ?_); rintro e w' ⟨rfl, ⟨nd, rfl⟩⟩))
  go_ret
  exact ⟨zq6, zq80⟩
 rw [if_pos c19] at H
 have c19b0 : decide (a0_2 ≤ 7) = true := decide_eq_true c19
 clear c19
 by_cases c20 : (wrap64 (a0_2 - (a0_0.size : Int))) ≤ (wrap64 (8 - (a0_1.size : Int)))
 rotate_left
 ·rw [if_neg c20] at H
  have c20b0 : decide ((wrap64 (a0_2 - (a0_0.size : Int))) ≤ (wrap64 (8 - (a0_1.size : Int)))) = false := decide_eq_false c20
  clear c20
  obtain rfl := Option.some.inj H
  go_enter Tryz.func58, Tryz.ntmps58
  go_wp2_with (first | ((with_reducible refine gate_dst (N := 1) rfl ?_); (try (refine gate_guard (by rfl) ?_; dsimp only)); refine box_event ?hg (N := 1) ?hd (cs := #[.string a0_0, .string a0_1, .int .i64 a0_2]) (t := 29) ?hr ?_; (case hd => rfl); (case hg => rfl); (case hr => exact zq3); intro gb220 hg w24 hbox hb; have BK220 := Aside0.mk (hbox); have GW220 := Aside0.mk ((zq4 : w.heap.size ≤ gb220)); have GE220 := Aside0.mk ((zq4 : w.heap.size ≤ gb220)); replace HB := Aside0.mk (below_step (zq5) hb); clear hb hbox hg; have hcz25_0 : w24.cell? ⟨gb220, 0, none⟩ = some (.string a0_0) := (blk_cell BK220.out 0).trans rfl; have hcz25_1 : w24.cell? ⟨gb220, 1, none⟩ = some (.string a0_1) := (blk_cell BK220.out 1).trans rfl; have hcz25_2 : w24.cell? ⟨gb220, 2, none⟩ = some (.int .i64 a0_2) := (blk_cell BK220.out 2).trans rfl; have hfz25_0 := blk_frozen BK220.out 0; have hfz25_1 := blk_frozen BK220.out 1; have hfz25_2 := blk_frozen BK220.out 2) | ((with_reducible refine gate_callee (f := 51) rfl ?_); refine goesL_ (some 5) rfl rfl Tryz.func51 (by kernel_rfl) rfl #[.string a0_0] rfl (zq7) ?_; (with_reducible refine (dialtoneref12_digits.calls k a0_0 true _ A2.out).mono ?_); rintro e w' ⟨rfl, ⟨nd, rfl⟩⟩; refine ⟨_, rfl, ?_⟩) | (go_at_call 51; (with_reducible refine (dialtoneref12_digits.calls k a0_1 true _ A4.out).mono ?_); rintro e w' ⟨rfl, ⟨nd, rfl⟩⟩))
  go_ret
  exact ⟨zq6, zq80⟩
 rw [if_pos c20] at H
 have c20b0 : decide ((wrap64 (a0_2 - (a0_0.size : Int))) ≤ (wrap64 (8 - (a0_1.size : Int)))) = true := decide_eq_true c20
 clear c20
 replace H := Option.bind_eq_some_iff.mp H
 obtain ⟨t223, A210, H⟩ := H
 try dsimp only at H
 have A21 := Aside0.mk A210
 clear A210
 obtain rfl := Option.some.inj H
 go_enter Tryz.func58, Tryz.ntmps58
 go_wp2_with (first | ((with_reducible refine gate_dst (N := 1) rfl ?_); (try (refine gate_guard (by rfl) ?_; dsimp only)); refine box_event ?hg (N := 1) ?hd (cs := #[.string a0_0, .string a0_1, .int .i64 a0_2]) (t := 29) ?hr ?_; (case hd => rfl); (case hg => rfl); (case hr => exact zq3); intro gb220 hg w22 hbox hb; have BK220 := Aside0.mk (hbox); have GW220 := Aside0.mk ((zq4 : w.heap.size ≤ gb220)); have GE220 := Aside0.mk ((zq4 : w.heap.size ≤ gb220)); replace HB := Aside0.mk (below_step (zq5) hb); clear hb hbox hg; have hcz23_0 : w22.cell? ⟨gb220, 0, none⟩ = some (.string a0_0) := (blk_cell BK220.out 0).trans rfl; have hcz23_1 : w22.cell? ⟨gb220, 1, none⟩ = some (.string a0_1) := (blk_cell BK220.out 1).trans rfl; have hcz23_2 : w22.cell? ⟨gb220, 2, none⟩ = some (.int .i64 a0_2) := (blk_cell BK220.out 2).trans rfl; have hfz23_0 := blk_frozen BK220.out 0; have hfz23_1 := blk_frozen BK220.out 1; have hfz23_2 := blk_frozen BK220.out 2) | ((with_reducible refine gate_callee (f := 51) rfl ?_); refine goesL_ (some 5) rfl rfl Tryz.func51 (by kernel_rfl) rfl #[.string a0_0] rfl (zq7) ?_; (with_reducible refine (dialtoneref12_digits.calls k a0_0 true _ A2.out).mono ?_); rintro e w' ⟨rfl, ⟨nd, rfl⟩⟩; refine ⟨_, rfl, ?_⟩) | (go_at_call 51; (with_reducible refine (dialtoneref12_digits.calls k a0_1 true _ A4.out).mono ?_); rintro e w' ⟨rfl, ⟨nd, rfl⟩⟩) | (go_at_call 59; (with_reducible refine (dialtoneref12_apart.calls a0_0 a0_1 t223 _ A21.out).mono ?_); rintro e w' ⟨rfl, ⟨nd, rfl⟩⟩))
 go_ret
 exact ⟨zq6, zq80⟩
end Go.Proofs.YtlmfoblgheepoaaGreatDoor.Pl
end
section
open Go.Proofs.YtlmfoblgheepoaaGreatDoor.Z
namespace Go.Proofs.YtlmfoblgheepoaaGreatDoor.Pl
open Go.RowKit Go.Proofs.YtlmfoblgheepoaaGreatDoorW.PrintWords Go.Proofs.YtlmfoblgheepoaaGreatDoorW.PrintLast Go.Proofs.YtlmfoblgheepoaaGreatDoorW.PrintMore
attribute [local go_sem] max2_int min2_int max_two min_two max_three min_three max_four min_four
set_option linter.unusedVariables false
set_option linter.unusedSimpArgs false
mutual
def dialtoneref12_Valid.l0 : Nat → List (S29) → Int → Option (Bool)
 | 0, _, _ => none
 | k + 1, x0, x3 => if x3 < (x0.length : Int) then (if 0 ≤ x3 then ((dialtoneref12_one.f k ((rd_T29 x0 x3).f0) ((rd_T29 x0 x3).f1) ((rd_T29 x0 x3).f2)).bind fun t225 => (if t225 = true then (dialtoneref12_Valid.l1 k x0 x3 0) else (some false))) else (none)) else (some true)
def dialtoneref12_Valid.l1 : Nat → List (S29) → Int → Int → Option (Bool)
 | 0, _, _, _ => none
 | k + 1, x0, x3, x4 => if x4 < x3 then (if 0 ≤ x3 then (if x3 < (x0.length : Int) then (if 0 ≤ x4 then (if x4 < (x0.length : Int) then ((dialtoneref12_apart.f ((rd_T29 x0 x3).f0) ((rd_T29 x0 x4).f0)).bind fun t228 => (if t228 = true then ((dialtoneref12_apart.f ((rd_T29 x0 x3).f1) ((rd_T29 x0 x4).f1)).bind fun t231 => (if t231 = true then ((dialtoneref12_apart.f ((rd_T29 x0 x3).f0) ((rd_T29 x0 x4).f1)).bind fun t234 => (if t234 = true then ((dialtoneref12_apart.f ((rd_T29 x0 x3).f1) ((rd_T29 x0 x4).f0)).bind fun t237 => (if t237 = true then (dialtoneref12_Valid.l1 k x0 x3 (wrap64 (x4 + 1))) else (some false))) else (some false))) else (some false))) else (some false))) else (none)) else (none)) else (none)) else (none)) else (dialtoneref12_Valid.l0 k x0 (wrap64 (x3 + 1)))
end
def dialtoneref12_Valid.f (k : Nat) (l0 : List (S29)) : Option (Bool) := if (l0.length : Int) > 20 then (some false) else (dialtoneref12_Valid.l0 k l0 0)
def dialtoneref12_Valid.T11 : Bool × List (List Nat × List Nat) := (true, [([], []), ([], []), ([0, 1], [0, 1]), ([2], [2]), ([3], [3]), ([], []), ([], []), ([5, 6], [5, 6]), ([7], [7]), ([8], [8]), ([4, 9], [4, 9]), ([10], [10]), ([11, 10], [11]), ([12], [12]), ([12], [12]), ([13, 14, 12], [12, 13, 14]), ([15, 12], [12, 15]), ([16, 12], [12, 16]), ([12], [12]), ([12], [12]), ([18, 19, 12], [12, 18, 19]), ([20, 12], [12, 20]), ([21, 12], [12, 21]), ([17, 22, 12, 12], [12, 17, 22]), ([23, 12], [12, 23]), ([12, 24], [12, 24]), ([25, 23], [25]), ([26], [26]), ([26], [26]), ([27, 28, 26], [26, 27, 28]), ([29, 26], [26, 29]), ([30, 26], [26, 30]), ([26], [26]), ([26], [26]), ([32, 33, 26], [26, 32, 33]), ([34, 26], [26, 34]), ([35, 26], [26, 35]), ([31, 36, 26, 26], [26, 31, 36]), ([37, 26], [26, 37]), ([26, 38], [26, 38]), ([39, 37], [39]), ([40], [40]), ([40], [40]), ([41, 42, 40], [40, 41, 42]), ([43, 40], [40, 43]), ([44, 40], [40, 44]), ([40], [40]), ([40], [40]), ([46, 47, 40], [40, 46, 47]), ([48, 40], [40, 48]), ([49, 40], [40, 49]), ([45, 50, 40, 40], [40, 45, 50]), ([51, 40], [40, 51]), ([40, 52], [40, 52])])
def dialtoneref12_Valid.B11 : List Nat := [0, 0, 3, 7, 15, 0, 0, 96, 224, 480, 1023, 2047, 4095, 8191, 8191, 32767, 65535, 131071, 8191, 8191, 794623, 1843199, 3940351, 8388607, 16777215, 33554431, 67108863, 134217727, 134217727, 536870911, 1073741823, 2147483647, 134217727, 134217727, 13019119615, 30198988799, 64558727167, 137438953471, 274877906943, 549755813887, 1099511627775, 2199023255551, 2199023255551, 8796093022207, 17592186044415, 35184372088831, 2199023255551, 2199023255551, 213305255788543, 494780232499199, 1057730185920511, 2251799813685247, 4503599627370495, 9007199254740991]
theorem dialtoneref12_Valid.tab11 : rtab .any (opsOf Tryz.f26 11) = dialtoneref12_Valid.T11 := by kernel_rfl
theorem dialtoneref12_Valid.bits11 : waitsOk dialtoneref12_Valid.T11.2 dialtoneref12_Valid.B11 = true := by kernel_rfl
set_option maxHeartbeats 8000000 in
set_option maxRecDepth 100000 in
theorem dialtoneref12_Valid.calls (k : Nat) (A0 : Option Addr) (c0 : Nat) (l0 : List (S29)) (r : Bool) (w : World) (hr0 : Kd.C k29 w A0 l0.length l0) (hc0 : l0.length ≤ c0) (h : dialtoneref12_Valid.f k l0 = some r) :
 Calls Tryz.prog 26 #[.slice A0 l0.length c0] w fun e w' => e = .returned (.bool r) ∧ Below w.heap.size w w' := by
 have hu29 := Tryz.underlying29
 have HR0 := Aside0.mk hr0
 have HC0 := Aside0.mk hc0
 clear hr0 hc0
 have HB := Aside0.mk (Below.refl w.heap.size w)
 have H : (if (l0.length : Int) > 20 then (some false) else (dialtoneref12_Valid.l0 k l0 0)) = some r := h
 clear h
 by_cases c2 : (l0.length : Int) > 20
 ·rw [if_pos c2] at H
  have c2b0 : decide (20 < (l0.length : Int)) = true := decide_eq_true c2
  have c2b1 : decide (20 < l0.length) = true := decide_eq_true (by omega)
  clear c2
  obtain rfl := Option.some.inj H
  go_enter Tryz.func26, Tryz.ntmps26
  go_wp2
  go_ret
  exact ⟨zq6, zq5⟩
 rw [if_neg c2] at H
 have c2b0 : decide (20 < (l0.length : Int)) = false := decide_eq_false c2
 have c2b1 : decide (20 < l0.length) = false := decide_eq_false (by omega)
 clear c2
 have H' := Aside0.mk H
 clear H
 go_enter Tryz.func26, Tryz.ntmps26
 go_wp2
 go_loopg [3] k (fun kq v3 w' => ∃ (x3_1 : Int), v3 = .int .i64 x3_1 ∧ Aside0 (dialtoneref12_Valid.l0 kq l0 x3_1 = some r) ∧ Aside0 (kq ≤ k) ∧ Aside0 (Below w.heap.size w w'))
 case atStart => exact ⟨(0), (zq1), H', ⟨Nat.le_refl _⟩, ⟨zq5⟩⟩
 case round =>
  clear H'
  try clear c2
  try clear c2b0
  try clear c2b1
  try clear p2
  obtain ⟨x3_1, rfl, HA, HK1, HB⟩ := hrel
  cases gk with
  | zero => exact absurd HA.out (by simp [dialtoneref12_Valid.l0])
  | succ k1 =>
   have H := HA.out
   clear HA
   simp only [dialtoneref12_Valid.l0] at H
   by_cases c3 : x3_1 < (l0.length : Int)
   rotate_left
   ·rw [if_neg c3] at H
    have c3b0 : decide (x3_1 < (l0.length : Int)) = false := decide_eq_false c3
    clear c3
    obtain rfl := Option.some.inj H
    go_wp2
    go_ret
    exact ⟨zq6, zq5⟩
   rw [if_pos c3] at H
   have c3b0 : decide (x3_1 < (l0.length : Int)) = true := decide_eq_true c3
   clear c3
   by_cases c4 : 0 ≤ x3_1
   rotate_left
   ·rw [if_neg c4] at H
    exact absurd H (by simp)
   rw [if_pos c4] at H
   have c4b0 : decide (0 ≤ x3_1) = true := decide_eq_true c4
   clear c4
   replace H := Option.bind_eq_some_iff.mp H
   obtain ⟨t225, A50, H⟩ := H
   try dsimp only at H
   have A5 := Aside0.mk A50
   clear A50
   by_cases c6 : t225 = true
   rotate_left
   ·replace c6 := Bool.eq_false_iff.mpr c6
    subst c6
    rw [if_neg (show ¬ (false = true) by decide)] at H
    obtain rfl := Option.some.inj H
    have p224 : 0 ≤ (x3_1 : Int) := of_decide_eq_true (zq18)
    have q224 : x3_1 < (l0.length : Int) := of_decide_eq_true (zq18)
    obtain ⟨ad224, e224, hx224_0, hx224_1, hx224_2⟩ := at_T29 HR0.out x3_1 p224 q224
    cases e224
    replace hx224_0 := (HB.out.cell (World.block_lt_of_cell? w _ hx224_0)).trans hx224_0
    replace hx224_1 := (HB.out.cell (World.block_lt_of_cell? w _ hx224_1)).trans hx224_1
    replace hx224_2 := (HB.out.cell (World.block_lt_of_cell? w _ hx224_2)).trans hx224_2
    replace p224 := eq_true p224
    replace q224 := eq_true q224
    go_wp2_with (first | ((with_reducible refine gate_callee (f := 58) rfl ?_); refine goesL_ (some 18) rfl rfl Tryz.func58 (by kernel_rfl) rfl #[.agg #[.string ((rd_T29 l0 x3_1).f0), .string ((rd_T29 l0 x3_1).f1), .int .i64 ((rd_T29 l0 x3_1).f2)]] rfl (zq7) ?_; (with_reducible refine (dialtoneref12_one.calls k1 ((rd_T29 l0 x3_1).f0) ((rd_T29 l0 x3_1).f1) ((rd_T29 l0 x3_1).f2) false _ A5.out).mono ?_); rintro e w26 ⟨rfl, hb⟩; refine ⟨_, rfl, ?_⟩; replace HB := Aside0.mk (below_step (zq5) hb); (try clear hb); (try clear hb2); (try clear hk); (try clear hi)))
    go_ret
    exact ⟨zq6, zq5⟩
   subst c6
   rw [if_pos rfl] at H
   have H' := Aside0.mk H
   clear H
   have p224 : 0 ≤ (x3_1 : Int) := of_decide_eq_true (zq18)
   have q224 : x3_1 < (l0.length : Int) := of_decide_eq_true (zq18)
   obtain ⟨ad224, e224, hx224_0, hx224_1, hx224_2⟩ := at_T29 HR0.out x3_1 p224 q224
   cases e224
   replace hx224_0 := (HB.out.cell (World.block_lt_of_cell? w _ hx224_0)).trans hx224_0
   replace hx224_1 := (HB.out.cell (World.block_lt_of_cell? w _ hx224_1)).trans hx224_1
   replace hx224_2 := (HB.out.cell (World.block_lt_of_cell? w _ hx224_2)).trans hx224_2
   replace p224 := eq_true p224
   replace q224 := eq_true q224
   go_wp2_with (first | ((with_reducible refine gate_callee (f := 58) rfl ?_); refine goesL_ (some 18) rfl rfl Tryz.func58 (by kernel_rfl) rfl #[.agg #[.string ((rd_T29 l0 x3_1).f0), .string ((rd_T29 l0 x3_1).f1), .int .i64 ((rd_T29 l0 x3_1).f2)]] rfl (zq7) ?_; (with_reducible refine (dialtoneref12_one.calls k1 ((rd_T29 l0 x3_1).f0) ((rd_T29 l0 x3_1).f1) ((rd_T29 l0 x3_1).f2) true _ A5.out).mono ?_); rintro e w7 ⟨rfl, hb⟩; refine ⟨_, rfl, ?_⟩; replace HB := Aside0.mk (below_step (zq5) hb); (try clear hb); (try clear hb2); (try clear hk); (try clear hi)))
   go_loopg [4] k1 (fun kq v4 w' => ∃ (x4_2 : Int), v4 = .int .i64 x4_2 ∧ Aside0 (dialtoneref12_Valid.l1 kq l0 x3_1 x4_2 = some r) ∧ Aside0 (kq ≤ k1) ∧ Aside0 (Below w.heap.size w w'))
   case atStart => exact ⟨(0), (zq1), H', ⟨Nat.le_refl _⟩, ⟨zq5⟩⟩
   case round =>
    clear H'
    try clear c2
    try clear c2b0
    try clear c2b1
    try clear p2
    try clear q2
    try clear hx2
    try clear c3
    try clear c3b0
    try clear c4
    try clear c4b0
    try clear c5
    try clear c6
    try clear p6
    try clear hx224_0
    try clear hx224_1
    try clear hx224_2
    try clear p2
    try clear p224
    try clear q224
    obtain ⟨x4_2, rfl, HA, HK2, HB⟩ := hrel
    cases gk with
    | zero => exact absurd HA.out (by simp [dialtoneref12_Valid.l1])
    | succ k2 =>
     have H := HA.out
     clear HA
     simp only [dialtoneref12_Valid.l1] at H
     by_cases c8 : x4_2 < x3_1
     rotate_left
     ·rw [if_neg c8] at H
      have c8b0 : decide (x4_2 < x3_1) = false := decide_eq_false c8
      clear c8
      have H' := Aside0.mk H
      clear H
      go_wp2
      go_roundg k2
      case measure => have := HK1.out; have := HK2.out; omega
      case rel => exact ⟨(wrap64 (x3_1 + 1)), (zq1), H', ⟨zq27⟩, ⟨zq5⟩⟩
     rw [if_pos c8] at H
     have c8b0 : decide (x4_2 < x3_1) = true := decide_eq_true c8
     clear c8
     by_cases c9 : 0 ≤ x3_1
     rotate_left
     ·rw [if_neg c9] at H
      exact absurd H (by simp)
     rw [if_pos c9] at H
     have c9b0 : decide (0 ≤ x3_1) = true := decide_eq_true c9
     clear c9
     by_cases c10 : x3_1 < (l0.length : Int)
     rotate_left
     ·rw [if_neg c10] at H
      exact absurd H (by simp)
     rw [if_pos c10] at H
     have c10b0 : decide (x3_1 < (l0.length : Int)) = true := decide_eq_true c10
     clear c10
     by_cases c11 : 0 ≤ x4_2
     rotate_left
     ·rw [if_neg c11] at H
      exact absurd H (by simp)
     rw [if_pos c11] at H
     have c11b0 : decide (0 ≤ x4_2) = true := decide_eq_true c11
     clear c11
     by_cases c12 : x4_2 < (l0.length : Int)
     rotate_left
     ·rw [if_neg c12] at H
      exact absurd H (by simp)
     rw [if_pos c12] at H
     have c12b0 : decide (x4_2 < (l0.length : Int)) = true := decide_eq_true c12
     clear c12
     replace H := Option.bind_eq_some_iff.mp H
     obtain ⟨t228, A130, H⟩ := H
     try dsimp only at H
     have A13 := Aside0.mk A130
     clear A130
     by_cases c14 : t228 = true
     rotate_left
     ·replace c14 := Bool.eq_false_iff.mpr c14
      subst c14
      rw [if_neg (show ¬ (false = true) by decide)] at H
      obtain rfl := Option.some.inj H
      try go_wp2
      replace HB := Aside0.mk (below_drew1 HB.out)
      have p226 : 0 ≤ (x3_1 : Int) := of_decide_eq_true (zq18)
      have q226 : x3_1 < (l0.length : Int) := of_decide_eq_true (zq18)
      obtain ⟨ad226, e226, hx226_0, hx226_1, hx226_2⟩ := at_T29 HR0.out x3_1 p226 q226
      have hw226_2 := hx226_2
      have hw226_1 := hx226_1
      have hw226_0 := hx226_0
      obtain rfl : ad224 = ad226 := (by injection e226)
      replace hx226_0 := (HB.out.cell (World.block_lt_of_cell? w _ hx226_0)).trans hx226_0
      replace hx226_1 := (HB.out.cell (World.block_lt_of_cell? w _ hx226_1)).trans hx226_1
      replace hx226_2 := (HB.out.cell (World.block_lt_of_cell? w _ hx226_2)).trans hx226_2
      replace p226 := eq_true p226
      replace q226 := eq_true q226
      have p227 : 0 ≤ (x4_2 : Int) := of_decide_eq_true (zq18)
      have q227 : x4_2 < (l0.length : Int) := of_decide_eq_true (zq18)
      obtain ⟨ad227, e227, hx227_0, hx227_1, hx227_2⟩ := at_T29 HR0.out x4_2 p227 q227
      have hw227_2 := hx227_2
      have hw227_1 := hx227_1
      have hw227_0 := hx227_0
      obtain rfl : ad224 = ad227 := (by injection e227)
      replace hx227_0 := (HB.out.cell (World.block_lt_of_cell? w _ hx227_0)).trans hx227_0
      replace hx227_1 := (HB.out.cell (World.block_lt_of_cell? w _ hx227_1)).trans hx227_1
      replace hx227_2 := (HB.out.cell (World.block_lt_of_cell? w _ hx227_2)).trans hx227_2
      replace p227 := eq_true p227
      replace q227 := eq_true q227
      refine start_ (n := 54) (S := fun w' => w'.cell? (ad224.add ((x3_1).toNat * 3)) = some (.string ((rd_T29 l0 x3_1).f0)) ∧ w'.cell? ⟨(ad224.add ((x3_1).toNat * 3)).block, (ad224.add ((x3_1).toNat * 3)).off + 1, none⟩ = some (.string ((rd_T29 l0 x3_1).f1)) ∧ w'.cell? ⟨(ad224.add ((x3_1).toNat * 3)).block, (ad224.add ((x3_1).toNat * 3)).off + 2, none⟩ = some (.int .i64 ((rd_T29 l0 x3_1).f2)) ∧ w'.cell? (ad224.add ((x4_2).toNat * 3)) = some (.string ((rd_T29 l0 x4_2).f0)) ∧ w'.cell? ⟨(ad224.add ((x4_2).toNat * 3)).block, (ad224.add ((x4_2).toNat * 3)).off + 1, none⟩ = some (.string ((rd_T29 l0 x4_2).f1)) ∧ w'.cell? ⟨(ad224.add ((x4_2).toNat * 3)).block, (ad224.add ((x4_2).toNat * 3)).off + 2, none⟩ = some (.int .i64 ((rd_T29 l0 x4_2).f2))) (ds := []) (bm 54 0) (by kernel_rfl) rfl rfl ⟨((HB.out.cell (World.block_lt_of_cell? w _ hw226_0)).trans hw226_0), ((HB.out.cell (World.block_lt_of_cell? w _ hw226_1)).trans hw226_1), ((HB.out.cell (World.block_lt_of_cell? w _ hw226_2)).trans hw226_2), ((HB.out.cell (World.block_lt_of_cell? w _ hw227_0)).trans hw227_0), ((HB.out.cell (World.block_lt_of_cell? w _ hw227_1)).trans hw227_1), ((HB.out.cell (World.block_lt_of_cell? w _ hw227_2)).trans hw227_2)⟩ (fun hHeld => ?_); refine with_tabW dialtoneref12_Valid.tab11 dialtoneref12_Valid.bits11 (fun HT_ HW_ => ?_)
      generalize wr.drew = w25 at HB hx226_0 hx226_1 hx226_2 hx227_0 hx227_1 hx227_2 hHeld ⊢
      refine pz 0 (some 25) (bm 54 1) HT_ ?_
      refine pz 1 (some 26) (bm 54 3) HT_ ?_
      refine pz 2 (some 27) (bm 54 7) HT_ ?_
      refine pz 3 (some 28) (bm 54 15) HT_ ?_
      refine pz 5 (some 30) (bm 54 47) HT_ ?_
      refine pz 6 (some 31) (bm 54 111) HT_ ?_
      refine pz 7 (some 32) (bm 54 239) HT_ ?_
      refine pz 8 (some 33) (bm 54 495) HT_ ?_
      refine tz 4 (some 29) (bm 54 511) HT_ HW_ hHeld ?_
      refine tz 9 (some 34) (bm 54 1023) HT_ HW_ hHeld ?_
      refine one_ (i := 10) (N := some 35) (bm 54 2047) rfl rfl (one_of HT_.out (by kernel_rfl)) (by decide) (fun K hK => ?_)
      refine goes_ Tryz.func59 (by kernel_rfl) rfl #[.string ((rd_T29 l0 x3_1).f0), .string ((rd_T29 l0 x4_2).f0)] (by rfl) rfl rfl (zq7) ?_
      with_reducible refine (dialtoneref12_apart.calls ((rd_T29 l0 x3_1).f0) ((rd_T29 l0 x4_2).f0) false _ A13.out).mono ?_
      rintro e w' ⟨rfl, ⟨nd, rfl⟩⟩
      refine ⟨_, rfl, ?_⟩
      refine hK.out _ _ ⟨((HB.out.cell (World.block_lt_of_cell? w _ hw226_0)).trans hw226_0), ((HB.out.cell (World.block_lt_of_cell? w _ hw226_1)).trans hw226_1), ((HB.out.cell (World.block_lt_of_cell? w _ hw226_2)).trans hw226_2), ((HB.out.cell (World.block_lt_of_cell? w _ hw227_0)).trans hw227_0), ((HB.out.cell (World.block_lt_of_cell? w _ hw227_1)).trans hw227_1), ((HB.out.cell (World.block_lt_of_cell? w _ hw227_2)).trans hw227_2)⟩ (fun hHeld => ?_)
      clear hK K
      refine nz (some 35) ?_
      refine pz 11 (some 36) (bm 54 4095) HT_ ?_
      refine pz 12 (some 37) (bm 54 8191) HT_ ?_
      refine uz 13 (some 38) (bm 54 16383) HT_ ?_
      refine uz 14 (some 39) (bm 54 32767) HT_ ?_
      refine uz 15 (some 40) (bm 54 65535) HT_ ?_
      refine uz 16 (some 41) (bm 54 131071) HT_ ?_
      refine uz 17 (some 42) (bm 54 262143) HT_ ?_
      refine uz 18 (some 43) (bm 54 524287) HT_ ?_
      refine uz 19 (some 44) (bm 54 1048575) HT_ ?_
      refine uz 20 (some 45) (bm 54 2097151) HT_ ?_
      refine uz 21 (some 46) (bm 54 4194303) HT_ ?_
      refine uz 22 (some 47) (bm 54 8388607) HT_ ?_
      refine uz 23 (some 48) (bm 54 16777215) HT_ ?_
      refine uz 24 (some 49) (bm 54 33554431) HT_ ?_
      refine pz 25 (some 50) (bm 54 67108863) HT_ ?_
      refine pz 26 (some 51) (bm 54 134217727) HT_ ?_
      refine uz 27 (some 52) (bm 54 268435455) HT_ ?_
      refine uz 28 (some 53) (bm 54 536870911) HT_ ?_
      refine uz 29 (some 54) (bm 54 1073741823) HT_ ?_
      refine uz 30 (some 55) (bm 54 2147483647) HT_ ?_
      refine uz 31 (some 56) (bm 54 4294967295) HT_ ?_
      refine uz 32 (some 57) (bm 54 8589934591) HT_ ?_
      refine uz 33 (some 58) (bm 54 17179869183) HT_ ?_
      refine uz 34 (some 59) (bm 54 34359738367) HT_ ?_
      refine uz 35 (some 60) (bm 54 68719476735) HT_ ?_
      refine uz 36 (some 61) (bm 54 137438953471) HT_ ?_
      refine uz 37 (some 62) (bm 54 274877906943) HT_ ?_
      refine uz 38 (some 63) (bm 54 549755813887) HT_ ?_
      refine pz 39 (some 64) (bm 54 1099511627775) HT_ ?_
      refine pz 40 (some 65) (bm 54 2199023255551) HT_ ?_
      refine uz 41 (some 66) (bm 54 4398046511103) HT_ ?_
      refine uz 42 (some 67) (bm 54 8796093022207) HT_ ?_
      refine uz 43 (some 68) (bm 54 17592186044415) HT_ ?_
      refine uz 44 (some 69) (bm 54 35184372088831) HT_ ?_
      refine uz 45 (some 70) (bm 54 70368744177663) HT_ ?_
      refine uz 46 (some 71) (bm 54 140737488355327) HT_ ?_
      refine uz 47 (some 72) (bm 54 281474976710655) HT_ ?_
      refine uz 48 (some 73) (bm 54 562949953421311) HT_ ?_
      refine uz 49 (some 74) (bm 54 1125899906842623) HT_ ?_
      refine uz 50 (some 75) (bm 54 2251799813685247) HT_ ?_
      refine uz 51 (some 76) (bm 54 4503599627370495) HT_ ?_
      refine uz 52 (some 77) (bm 54 9007199254740991) HT_ ?_
      refine pz 53 (some 78) (bm 54 18014398509481983) HT_ ?_
      refine done_ (done_of HT_.out (by kernel_rfl)) ?_
      try go_wp2
      go_ret
      exact ⟨zq6, zq5⟩
     subst c14
     rw [if_pos rfl] at H
     replace H := Option.bind_eq_some_iff.mp H
     obtain ⟨t231, A150, H⟩ := H
     try dsimp only at H
     have A15 := Aside0.mk A150
     clear A150
     by_cases c16 : t231 = true
     rotate_left
     ·replace c16 := Bool.eq_false_iff.mpr c16
      subst c16
      rw [if_neg (show ¬ (false = true) by decide)] at H
      obtain rfl := Option.some.inj H
      try go_wp2
      replace HB := Aside0.mk (below_drew1 HB.out)
      have p226 : 0 ≤ (x3_1 : Int) := of_decide_eq_true (zq18)
      have q226 : x3_1 < (l0.length : Int) := of_decide_eq_true (zq18)
      obtain ⟨ad226, e226, hx226_0, hx226_1, hx226_2⟩ := at_T29 HR0.out x3_1 p226 q226
      have hw226_2 := hx226_2
      have hw226_1 := hx226_1
      have hw226_0 := hx226_0
      obtain rfl : ad224 = ad226 := (by injection e226)
      replace hx226_0 := (HB.out.cell (World.block_lt_of_cell? w _ hx226_0)).trans hx226_0
      replace hx226_1 := (HB.out.cell (World.block_lt_of_cell? w _ hx226_1)).trans hx226_1
      replace hx226_2 := (HB.out.cell (World.block_lt_of_cell? w _ hx226_2)).trans hx226_2
      replace p226 := eq_true p226
      replace q226 := eq_true q226
      have p227 : 0 ≤ (x4_2 : Int) := of_decide_eq_true (zq18)
      have q227 : x4_2 < (l0.length : Int) := of_decide_eq_true (zq18)
      obtain ⟨ad227, e227, hx227_0, hx227_1, hx227_2⟩ := at_T29 HR0.out x4_2 p227 q227
      have hw227_2 := hx227_2
      have hw227_1 := hx227_1
      have hw227_0 := hx227_0
      obtain rfl : ad224 = ad227 := (by injection e227)
      replace hx227_0 := (HB.out.cell (World.block_lt_of_cell? w _ hx227_0)).trans hx227_0
      replace hx227_1 := (HB.out.cell (World.block_lt_of_cell? w _ hx227_1)).trans hx227_1
      replace hx227_2 := (HB.out.cell (World.block_lt_of_cell? w _ hx227_2)).trans hx227_2
      replace p227 := eq_true p227
      replace q227 := eq_true q227
      have p229 : 0 ≤ (x3_1 : Int) := of_decide_eq_true (zq18)
      have q229 : x3_1 < (l0.length : Int) := of_decide_eq_true (zq18)
      obtain ⟨ad229, e229, hx229_0, hx229_1, hx229_2⟩ := at_T29 HR0.out x3_1 p229 q229
      have hw229_2 := hx229_2
      have hw229_1 := hx229_1
      have hw229_0 := hx229_0
      obtain rfl : ad224 = ad229 := (by injection e229)
      replace hx229_0 := (HB.out.cell (World.block_lt_of_cell? w _ hx229_0)).trans hx229_0
      replace hx229_1 := (HB.out.cell (World.block_lt_of_cell? w _ hx229_1)).trans hx229_1
      replace hx229_2 := (HB.out.cell (World.block_lt_of_cell? w _ hx229_2)).trans hx229_2
      replace p229 := eq_true p229
      replace q229 := eq_true q229
      have p230 : 0 ≤ (x4_2 : Int) := of_decide_eq_true (zq18)
      have q230 : x4_2 < (l0.length : Int) := of_decide_eq_true (zq18)
      obtain ⟨ad230, e230, hx230_0, hx230_1, hx230_2⟩ := at_T29 HR0.out x4_2 p230 q230
      have hw230_2 := hx230_2
      have hw230_1 := hx230_1
      have hw230_0 := hx230_0
      obtain rfl : ad224 = ad230 := (by injection e230)
      replace hx230_0 := (HB.out.cell (World.block_lt_of_cell? w _ hx230_0)).trans hx230_0
      replace hx230_1 := (HB.out.cell (World.block_lt_of_cell? w _ hx230_1)).trans hx230_1
      replace hx230_2 := (HB.out.cell (World.block_lt_of_cell? w _ hx230_2)).trans hx230_2
      replace p230 := eq_true p230
      replace q230 := eq_true q230
      refine start_ (n := 54) (S := fun w' => w'.cell? (ad224.add ((x3_1).toNat * 3)) = some (.string ((rd_T29 l0 x3_1).f0)) ∧ w'.cell? ⟨(ad224.add ((x3_1).toNat * 3)).block, (ad224.add ((x3_1).toNat * 3)).off + 1, none⟩ = some (.string ((rd_T29 l0 x3_1).f1)) ∧ w'.cell? ⟨(ad224.add ((x3_1).toNat * 3)).block, (ad224.add ((x3_1).toNat * 3)).off + 2, none⟩ = some (.int .i64 ((rd_T29 l0 x3_1).f2)) ∧ w'.cell? (ad224.add ((x4_2).toNat * 3)) = some (.string ((rd_T29 l0 x4_2).f0)) ∧ w'.cell? ⟨(ad224.add ((x4_2).toNat * 3)).block, (ad224.add ((x4_2).toNat * 3)).off + 1, none⟩ = some (.string ((rd_T29 l0 x4_2).f1)) ∧ w'.cell? ⟨(ad224.add ((x4_2).toNat * 3)).block, (ad224.add ((x4_2).toNat * 3)).off + 2, none⟩ = some (.int .i64 ((rd_T29 l0 x4_2).f2)) ∧ w'.cell? (ad224.add ((x3_1).toNat * 3)) = some (.string ((rd_T29 l0 x3_1).f0)) ∧ w'.cell? ⟨(ad224.add ((x3_1).toNat * 3)).block, (ad224.add ((x3_1).toNat * 3)).off + 1, none⟩ = some (.string ((rd_T29 l0 x3_1).f1)) ∧ w'.cell? ⟨(ad224.add ((x3_1).toNat * 3)).block, (ad224.add ((x3_1).toNat * 3)).off + 2, none⟩ = some (.int .i64 ((rd_T29 l0 x3_1).f2)) ∧ w'.cell? (ad224.add ((x4_2).toNat * 3)) = some (.string ((rd_T29 l0 x4_2).f0)) ∧ w'.cell? ⟨(ad224.add ((x4_2).toNat * 3)).block, (ad224.add ((x4_2).toNat * 3)).off + 1, none⟩ = some (.string ((rd_T29 l0 x4_2).f1)) ∧ w'.cell? ⟨(ad224.add ((x4_2).toNat * 3)).block, (ad224.add ((x4_2).toNat * 3)).off + 2, none⟩ = some (.int .i64 ((rd_T29 l0 x4_2).f2))) (ds := []) (bm 54 0) (by kernel_rfl) rfl rfl ⟨((HB.out.cell (World.block_lt_of_cell? w _ hw226_0)).trans hw226_0), ((HB.out.cell (World.block_lt_of_cell? w _ hw226_1)).trans hw226_1), ((HB.out.cell (World.block_lt_of_cell? w _ hw226_2)).trans hw226_2), ((HB.out.cell (World.block_lt_of_cell? w _ hw227_0)).trans hw227_0), ((HB.out.cell (World.block_lt_of_cell? w _ hw227_1)).trans hw227_1), ((HB.out.cell (World.block_lt_of_cell? w _ hw227_2)).trans hw227_2), ((HB.out.cell (World.block_lt_of_cell? w _ hw229_0)).trans hw229_0), ((HB.out.cell (World.block_lt_of_cell? w _ hw229_1)).trans hw229_1), ((HB.out.cell (World.block_lt_of_cell? w _ hw229_2)).trans hw229_2), ((HB.out.cell (World.block_lt_of_cell? w _ hw230_0)).trans hw230_0), ((HB.out.cell (World.block_lt_of_cell? w _ hw230_1)).trans hw230_1), ((HB.out.cell (World.block_lt_of_cell? w _ hw230_2)).trans hw230_2)⟩ (fun hHeld => ?_); refine with_tabW dialtoneref12_Valid.tab11 dialtoneref12_Valid.bits11 (fun HT_ HW_ => ?_)
      generalize wr.drew = w24 at HB hx226_0 hx226_1 hx226_2 hx227_0 hx227_1 hx227_2 hx229_0 hx229_1 hx229_2 hx230_0 hx230_1 hx230_2 hHeld ⊢
      refine pz 0 (some 25) (bm 54 1) HT_ ?_
      refine pz 1 (some 26) (bm 54 3) HT_ ?_
      refine pz 2 (some 27) (bm 54 7) HT_ ?_
      refine pz 3 (some 28) (bm 54 15) HT_ ?_
      refine pz 5 (some 30) (bm 54 47) HT_ ?_
      refine pz 6 (some 31) (bm 54 111) HT_ ?_
      refine pz 7 (some 32) (bm 54 239) HT_ ?_
      refine pz 8 (some 33) (bm 54 495) HT_ ?_
      refine tz 4 (some 29) (bm 54 511) HT_ HW_ hHeld ?_
      refine tz 9 (some 34) (bm 54 1023) HT_ HW_ hHeld ?_
      refine one_ (i := 10) (N := some 35) (bm 54 2047) rfl rfl (one_of HT_.out (by kernel_rfl)) (by decide) (fun K hK => ?_)
      refine goes_ Tryz.func59 (by kernel_rfl) rfl #[.string ((rd_T29 l0 x3_1).f0), .string ((rd_T29 l0 x4_2).f0)] (by rfl) rfl rfl (zq7) ?_
      with_reducible refine (dialtoneref12_apart.calls ((rd_T29 l0 x3_1).f0) ((rd_T29 l0 x4_2).f0) true _ A13.out).mono ?_
      rintro e w' ⟨rfl, ⟨nd, rfl⟩⟩
      refine ⟨_, rfl, ?_⟩
      refine hK.out _ _ ⟨((HB.out.cell (World.block_lt_of_cell? w _ hw226_0)).trans hw226_0), ((HB.out.cell (World.block_lt_of_cell? w _ hw226_1)).trans hw226_1), ((HB.out.cell (World.block_lt_of_cell? w _ hw226_2)).trans hw226_2), ((HB.out.cell (World.block_lt_of_cell? w _ hw227_0)).trans hw227_0), ((HB.out.cell (World.block_lt_of_cell? w _ hw227_1)).trans hw227_1), ((HB.out.cell (World.block_lt_of_cell? w _ hw227_2)).trans hw227_2), ((HB.out.cell (World.block_lt_of_cell? w _ hw229_0)).trans hw229_0), ((HB.out.cell (World.block_lt_of_cell? w _ hw229_1)).trans hw229_1), ((HB.out.cell (World.block_lt_of_cell? w _ hw229_2)).trans hw229_2), ((HB.out.cell (World.block_lt_of_cell? w _ hw230_0)).trans hw230_0), ((HB.out.cell (World.block_lt_of_cell? w _ hw230_1)).trans hw230_1), ((HB.out.cell (World.block_lt_of_cell? w _ hw230_2)).trans hw230_2)⟩ (fun hHeld => ?_)
      clear hK K
      refine nz (some 35) ?_
      refine pz 11 (some 36) (bm 54 4095) HT_ ?_
      refine pz 12 (some 37) (bm 54 8191) HT_ ?_
      refine pz 13 (some 38) (bm 54 16383) HT_ ?_
      refine pz 14 (some 39) (bm 54 32767) HT_ ?_
      refine pz 15 (some 40) (bm 54 65535) HT_ ?_
      refine pz 16 (some 41) (bm 54 131071) HT_ ?_
      refine pz 18 (some 43) (bm 54 393215) HT_ ?_
      refine pz 19 (some 44) (bm 54 917503) HT_ ?_
      refine pz 20 (some 45) (bm 54 1966079) HT_ ?_
      refine pz 21 (some 46) (bm 54 4063231) HT_ ?_
      refine tz 17 (some 42) (bm 54 4194303) HT_ HW_ hHeld ?_
      refine tz 22 (some 47) (bm 54 8388607) HT_ HW_ hHeld ?_
      refine one_ (i := 23) (N := some 48) (bm 54 16777215) rfl rfl (one_of HT_.out (by kernel_rfl)) (by decide) (fun K hK => ?_)
      refine goes_ Tryz.func59 (by kernel_rfl) rfl #[.string ((rd_T29 l0 x3_1).f1), .string ((rd_T29 l0 x4_2).f1)] (by rfl) rfl rfl (zq7) ?_
      with_reducible refine (dialtoneref12_apart.calls ((rd_T29 l0 x3_1).f1) ((rd_T29 l0 x4_2).f1) false _ A15.out).mono ?_
      rintro e w' ⟨rfl, ⟨nd, rfl⟩⟩
      refine ⟨_, rfl, ?_⟩
      refine hK.out _ _ ⟨((HB.out.cell (World.block_lt_of_cell? w _ hw226_0)).trans hw226_0), ((HB.out.cell (World.block_lt_of_cell? w _ hw226_1)).trans hw226_1), ((HB.out.cell (World.block_lt_of_cell? w _ hw226_2)).trans hw226_2), ((HB.out.cell (World.block_lt_of_cell? w _ hw227_0)).trans hw227_0), ((HB.out.cell (World.block_lt_of_cell? w _ hw227_1)).trans hw227_1), ((HB.out.cell (World.block_lt_of_cell? w _ hw227_2)).trans hw227_2), ((HB.out.cell (World.block_lt_of_cell? w _ hw229_0)).trans hw229_0), ((HB.out.cell (World.block_lt_of_cell? w _ hw229_1)).trans hw229_1), ((HB.out.cell (World.block_lt_of_cell? w _ hw229_2)).trans hw229_2), ((HB.out.cell (World.block_lt_of_cell? w _ hw230_0)).trans hw230_0), ((HB.out.cell (World.block_lt_of_cell? w _ hw230_1)).trans hw230_1), ((HB.out.cell (World.block_lt_of_cell? w _ hw230_2)).trans hw230_2)⟩ (fun hHeld => ?_)
      clear hK K
      refine nz (some 48) ?_
      refine pz 24 (some 49) (bm 54 33554431) HT_ ?_
      refine pz 25 (some 50) (bm 54 67108863) HT_ ?_
      refine pz 26 (some 51) (bm 54 134217727) HT_ ?_
      refine uz 27 (some 52) (bm 54 268435455) HT_ ?_
      refine uz 28 (some 53) (bm 54 536870911) HT_ ?_
      refine uz 29 (some 54) (bm 54 1073741823) HT_ ?_
      refine uz 30 (some 55) (bm 54 2147483647) HT_ ?_
      refine uz 31 (some 56) (bm 54 4294967295) HT_ ?_
      refine uz 32 (some 57) (bm 54 8589934591) HT_ ?_
      refine uz 33 (some 58) (bm 54 17179869183) HT_ ?_
      refine uz 34 (some 59) (bm 54 34359738367) HT_ ?_
      refine uz 35 (some 60) (bm 54 68719476735) HT_ ?_
      refine uz 36 (some 61) (bm 54 137438953471) HT_ ?_
      refine uz 37 (some 62) (bm 54 274877906943) HT_ ?_
      refine uz 38 (some 63) (bm 54 549755813887) HT_ ?_
      refine pz 39 (some 64) (bm 54 1099511627775) HT_ ?_
      refine pz 40 (some 65) (bm 54 2199023255551) HT_ ?_
      refine uz 41 (some 66) (bm 54 4398046511103) HT_ ?_
      refine uz 42 (some 67) (bm 54 8796093022207) HT_ ?_
      refine uz 43 (some 68) (bm 54 17592186044415) HT_ ?_
      refine uz 44 (some 69) (bm 54 35184372088831) HT_ ?_
      refine uz 45 (some 70) (bm 54 70368744177663) HT_ ?_
      refine uz 46 (some 71) (bm 54 140737488355327) HT_ ?_
      refine uz 47 (some 72) (bm 54 281474976710655) HT_ ?_
      refine uz 48 (some 73) (bm 54 562949953421311) HT_ ?_
      refine uz 49 (some 74) (bm 54 1125899906842623) HT_ ?_
      refine uz 50 (some 75) (bm 54 2251799813685247) HT_ ?_
      refine uz 51 (some 76) (bm 54 4503599627370495) HT_ ?_
      refine uz 52 (some 77) (bm 54 9007199254740991) HT_ ?_
      refine pz 53 (some 78) (bm 54 18014398509481983) HT_ ?_
      refine done_ (done_of HT_.out (by kernel_rfl)) ?_
      try go_wp2
      go_ret
      exact ⟨zq6, zq5⟩
     subst c16
     rw [if_pos rfl] at H
     replace H := Option.bind_eq_some_iff.mp H
     obtain ⟨t234, A170, H⟩ := H
     try dsimp only at H
     have A17 := Aside0.mk A170
     clear A170
     by_cases c18 : t234 = true
     rotate_left
     ·replace c18 := Bool.eq_false_iff.mpr c18
      subst c18
      rw [if_neg (show ¬ (false = true) by decide)] at H
      obtain rfl := Option.some.inj H
      try go_wp2
      replace HB := Aside0.mk (below_drew1 HB.out)
      have p226 : 0 ≤ (x3_1 : Int) := of_decide_eq_true (zq18)
      have q226 : x3_1 < (l0.length : Int) := of_decide_eq_true (zq18)
      obtain ⟨ad226, e226, hx226_0, hx226_1, hx226_2⟩ := at_T29 HR0.out x3_1 p226 q226
      have hw226_2 := hx226_2
      have hw226_1 := hx226_1
      have hw226_0 := hx226_0
      obtain rfl : ad224 = ad226 := (by injection e226)
      replace hx226_0 := (HB.out.cell (World.block_lt_of_cell? w _ hx226_0)).trans hx226_0
      replace hx226_1 := (HB.out.cell (World.block_lt_of_cell? w _ hx226_1)).trans hx226_1
      replace hx226_2 := (HB.out.cell (World.block_lt_of_cell? w _ hx226_2)).trans hx226_2
      replace p226 := eq_true p226
      replace q226 := eq_true q226
      have p227 : 0 ≤ (x4_2 : Int) := of_decide_eq_true (zq18)
      have q227 : x4_2 < (l0.length : Int) := of_decide_eq_true (zq18)
      obtain ⟨ad227, e227, hx227_0, hx227_1, hx227_2⟩ := at_T29 HR0.out x4_2 p227 q227
      have hw227_2 := hx227_2
      have hw227_1 := hx227_1
      have hw227_0 := hx227_0
      obtain rfl : ad224 = ad227 := (by injection e227)
      replace hx227_0 := (HB.out.cell (World.block_lt_of_cell? w _ hx227_0)).trans hx227_0
      replace hx227_1 := (HB.out.cell (World.block_lt_of_cell? w _ hx227_1)).trans hx227_1
      replace hx227_2 := (HB.out.cell (World.block_lt_of_cell? w _ hx227_2)).trans hx227_2
      replace p227 := eq_true p227
      replace q227 := eq_true q227
      have p229 : 0 ≤ (x3_1 : Int) := of_decide_eq_true (zq18)
      have q229 : x3_1 < (l0.length : Int) := of_decide_eq_true (zq18)
      obtain ⟨ad229, e229, hx229_0, hx229_1, hx229_2⟩ := at_T29 HR0.out x3_1 p229 q229
      have hw229_2 := hx229_2
      have hw229_1 := hx229_1
      have hw229_0 := hx229_0
      obtain rfl : ad224 = ad229 := (by injection e229)
      replace hx229_0 := (HB.out.cell (World.block_lt_of_cell? w _ hx229_0)).trans hx229_0
      replace hx229_1 := (HB.out.cell (World.block_lt_of_cell? w _ hx229_1)).trans hx229_1
      replace hx229_2 := (HB.out.cell (World.block_lt_of_cell? w _ hx229_2)).trans hx229_2
      replace p229 := eq_true p229
      replace q229 := eq_true q229
      have p230 : 0 ≤ (x4_2 : Int) := of_decide_eq_true (zq18)
      have q230 : x4_2 < (l0.length : Int) := of_decide_eq_true (zq18)
      obtain ⟨ad230, e230, hx230_0, hx230_1, hx230_2⟩ := at_T29 HR0.out x4_2 p230 q230
      have hw230_2 := hx230_2
      have hw230_1 := hx230_1
      have hw230_0 := hx230_0
      obtain rfl : ad224 = ad230 := (by injection e230)
      replace hx230_0 := (HB.out.cell (World.block_lt_of_cell? w _ hx230_0)).trans hx230_0
      replace hx230_1 := (HB.out.cell (World.block_lt_of_cell? w _ hx230_1)).trans hx230_1
      replace hx230_2 := (HB.out.cell (World.block_lt_of_cell? w _ hx230_2)).trans hx230_2
      replace p230 := eq_true p230
      replace q230 := eq_true q230
      have p232 : 0 ≤ (x3_1 : Int) := of_decide_eq_true (zq18)
      have q232 : x3_1 < (l0.length : Int) := of_decide_eq_true (zq18)
      obtain ⟨ad232, e232, hx232_0, hx232_1, hx232_2⟩ := at_T29 HR0.out x3_1 p232 q232
      have hw232_2 := hx232_2
      have hw232_1 := hx232_1
      have hw232_0 := hx232_0
      obtain rfl : ad224 = ad232 := (by injection e232)
      replace hx232_0 := (HB.out.cell (World.block_lt_of_cell? w _ hx232_0)).trans hx232_0
      replace hx232_1 := (HB.out.cell (World.block_lt_of_cell? w _ hx232_1)).trans hx232_1
      replace hx232_2 := (HB.out.cell (World.block_lt_of_cell? w _ hx232_2)).trans hx232_2
      replace p232 := eq_true p232
      replace q232 := eq_true q232
      have p233 : 0 ≤ (x4_2 : Int) := of_decide_eq_true (zq18)
      have q233 : x4_2 < (l0.length : Int) := of_decide_eq_true (zq18)
      obtain ⟨ad233, e233, hx233_0, hx233_1, hx233_2⟩ := at_T29 HR0.out x4_2 p233 q233
      have hw233_2 := hx233_2
      have hw233_1 := hx233_1
      have hw233_0 := hx233_0
      obtain rfl : ad224 = ad233 := (by injection e233)
      replace hx233_0 := (HB.out.cell (World.block_lt_of_cell? w _ hx233_0)).trans hx233_0
      replace hx233_1 := (HB.out.cell (World.block_lt_of_cell? w _ hx233_1)).trans hx233_1
      replace hx233_2 := (HB.out.cell (World.block_lt_of_cell? w _ hx233_2)).trans hx233_2
      replace p233 := eq_true p233
      replace q233 := eq_true q233
      refine start_ (n := 54) (S := fun w' => w'.cell? (ad224.add ((x3_1).toNat * 3)) = some (.string ((rd_T29 l0 x3_1).f0)) ∧ w'.cell? ⟨(ad224.add ((x3_1).toNat * 3)).block, (ad224.add ((x3_1).toNat * 3)).off + 1, none⟩ = some (.string ((rd_T29 l0 x3_1).f1)) ∧ w'.cell? ⟨(ad224.add ((x3_1).toNat * 3)).block, (ad224.add ((x3_1).toNat * 3)).off + 2, none⟩ = some (.int .i64 ((rd_T29 l0 x3_1).f2)) ∧ w'.cell? (ad224.add ((x4_2).toNat * 3)) = some (.string ((rd_T29 l0 x4_2).f0)) ∧ w'.cell? ⟨(ad224.add ((x4_2).toNat * 3)).block, (ad224.add ((x4_2).toNat * 3)).off + 1, none⟩ = some (.string ((rd_T29 l0 x4_2).f1)) ∧ w'.cell? ⟨(ad224.add ((x4_2).toNat * 3)).block, (ad224.add ((x4_2).toNat * 3)).off + 2, none⟩ = some (.int .i64 ((rd_T29 l0 x4_2).f2)) ∧ w'.cell? (ad224.add ((x3_1).toNat * 3)) = some (.string ((rd_T29 l0 x3_1).f0)) ∧ w'.cell? ⟨(ad224.add ((x3_1).toNat * 3)).block, (ad224.add ((x3_1).toNat * 3)).off + 1, none⟩ = some (.string ((rd_T29 l0 x3_1).f1)) ∧ w'.cell? ⟨(ad224.add ((x3_1).toNat * 3)).block, (ad224.add ((x3_1).toNat * 3)).off + 2, none⟩ = some (.int .i64 ((rd_T29 l0 x3_1).f2)) ∧ w'.cell? (ad224.add ((x4_2).toNat * 3)) = some (.string ((rd_T29 l0 x4_2).f0)) ∧ w'.cell? ⟨(ad224.add ((x4_2).toNat * 3)).block, (ad224.add ((x4_2).toNat * 3)).off + 1, none⟩ = some (.string ((rd_T29 l0 x4_2).f1)) ∧ w'.cell? ⟨(ad224.add ((x4_2).toNat * 3)).block, (ad224.add ((x4_2).toNat * 3)).off + 2, none⟩ = some (.int .i64 ((rd_T29 l0 x4_2).f2)) ∧ w'.cell? (ad224.add ((x3_1).toNat * 3)) = some (.string ((rd_T29 l0 x3_1).f0)) ∧ w'.cell? ⟨(ad224.add ((x3_1).toNat * 3)).block, (ad224.add ((x3_1).toNat * 3)).off + 1, none⟩ = some (.string ((rd_T29 l0 x3_1).f1)) ∧ w'.cell? ⟨(ad224.add ((x3_1).toNat * 3)).block, (ad224.add ((x3_1).toNat * 3)).off + 2, none⟩ = some (.int .i64 ((rd_T29 l0 x3_1).f2)) ∧ w'.cell? (ad224.add ((x4_2).toNat * 3)) = some (.string ((rd_T29 l0 x4_2).f0)) ∧ w'.cell? ⟨(ad224.add ((x4_2).toNat * 3)).block, (ad224.add ((x4_2).toNat * 3)).off + 1, none⟩ = some (.string ((rd_T29 l0 x4_2).f1)) ∧ w'.cell? ⟨(ad224.add ((x4_2).toNat * 3)).block, (ad224.add ((x4_2).toNat * 3)).off + 2, none⟩ = some (.int .i64 ((rd_T29 l0 x4_2).f2))) (ds := []) (bm 54 0) (by kernel_rfl) rfl rfl ⟨((HB.out.cell (World.block_lt_of_cell? w _ hw226_0)).trans hw226_0), ((HB.out.cell (World.block_lt_of_cell? w _ hw226_1)).trans hw226_1), ((HB.out.cell (World.block_lt_of_cell? w _ hw226_2)).trans hw226_2), ((HB.out.cell (World.block_lt_of_cell? w _ hw227_0)).trans hw227_0), ((HB.out.cell (World.block_lt_of_cell? w _ hw227_1)).trans hw227_1), ((HB.out.cell (World.block_lt_of_cell? w _ hw227_2)).trans hw227_2), ((HB.out.cell (World.block_lt_of_cell? w _ hw229_0)).trans hw229_0), ((HB.out.cell (World.block_lt_of_cell? w _ hw229_1)).trans hw229_1), ((HB.out.cell (World.block_lt_of_cell? w _ hw229_2)).trans hw229_2), ((HB.out.cell (World.block_lt_of_cell? w _ hw230_0)).trans hw230_0), ((HB.out.cell (World.block_lt_of_cell? w _ hw230_1)).trans hw230_1), ((HB.out.cell (World.block_lt_of_cell? w _ hw230_2)).trans hw230_2), ((HB.out.cell (World.block_lt_of_cell? w _ hw232_0)).trans hw232_0), ((HB.out.cell (World.block_lt_of_cell? w _ hw232_1)).trans hw232_1), ((HB.out.cell (World.block_lt_of_cell? w _ hw232_2)).trans hw232_2), ((HB.out.cell (World.block_lt_of_cell? w _ hw233_0)).trans hw233_0), ((HB.out.cell (World.block_lt_of_cell? w _ hw233_1)).trans hw233_1), ((HB.out.cell (World.block_lt_of_cell? w _ hw233_2)).trans hw233_2)⟩ (fun hHeld => ?_); refine with_tabW dialtoneref12_Valid.tab11 dialtoneref12_Valid.bits11 (fun HT_ HW_ => ?_)
      generalize wr.drew = w23 at HB hx226_0 hx226_1 hx226_2 hx227_0 hx227_1 hx227_2 hx229_0 hx229_1 hx229_2 hx230_0 hx230_1 hx230_2 hx232_0 hx232_1 hx232_2 hx233_0 hx233_1 hx233_2 hHeld ⊢
      refine pz 0 (some 25) (bm 54 1) HT_ ?_
      refine pz 1 (some 26) (bm 54 3) HT_ ?_
      refine pz 2 (some 27) (bm 54 7) HT_ ?_
      refine pz 3 (some 28) (bm 54 15) HT_ ?_
      refine pz 5 (some 30) (bm 54 47) HT_ ?_
      refine pz 6 (some 31) (bm 54 111) HT_ ?_
      refine pz 7 (some 32) (bm 54 239) HT_ ?_
      refine pz 8 (some 33) (bm 54 495) HT_ ?_
      refine tz 4 (some 29) (bm 54 511) HT_ HW_ hHeld ?_
      refine tz 9 (some 34) (bm 54 1023) HT_ HW_ hHeld ?_
      refine one_ (i := 10) (N := some 35) (bm 54 2047) rfl rfl (one_of HT_.out (by kernel_rfl)) (by decide) (fun K hK => ?_)
      refine goes_ Tryz.func59 (by kernel_rfl) rfl #[.string ((rd_T29 l0 x3_1).f0), .string ((rd_T29 l0 x4_2).f0)] (by rfl) rfl rfl (zq7) ?_
      with_reducible refine (dialtoneref12_apart.calls ((rd_T29 l0 x3_1).f0) ((rd_T29 l0 x4_2).f0) true _ A13.out).mono ?_
      rintro e w' ⟨rfl, ⟨nd, rfl⟩⟩
      refine ⟨_, rfl, ?_⟩
      refine hK.out _ _ ⟨((HB.out.cell (World.block_lt_of_cell? w _ hw226_0)).trans hw226_0), ((HB.out.cell (World.block_lt_of_cell? w _ hw226_1)).trans hw226_1), ((HB.out.cell (World.block_lt_of_cell? w _ hw226_2)).trans hw226_2), ((HB.out.cell (World.block_lt_of_cell? w _ hw227_0)).trans hw227_0), ((HB.out.cell (World.block_lt_of_cell? w _ hw227_1)).trans hw227_1), ((HB.out.cell (World.block_lt_of_cell? w _ hw227_2)).trans hw227_2), ((HB.out.cell (World.block_lt_of_cell? w _ hw229_0)).trans hw229_0), ((HB.out.cell (World.block_lt_of_cell? w _ hw229_1)).trans hw229_1), ((HB.out.cell (World.block_lt_of_cell? w _ hw229_2)).trans hw229_2), ((HB.out.cell (World.block_lt_of_cell? w _ hw230_0)).trans hw230_0), ((HB.out.cell (World.block_lt_of_cell? w _ hw230_1)).trans hw230_1), ((HB.out.cell (World.block_lt_of_cell? w _ hw230_2)).trans hw230_2), ((HB.out.cell (World.block_lt_of_cell? w _ hw232_0)).trans hw232_0), ((HB.out.cell (World.block_lt_of_cell? w _ hw232_1)).trans hw232_1), ((HB.out.cell (World.block_lt_of_cell? w _ hw232_2)).trans hw232_2), ((HB.out.cell (World.block_lt_of_cell? w _ hw233_0)).trans hw233_0), ((HB.out.cell (World.block_lt_of_cell? w _ hw233_1)).trans hw233_1), ((HB.out.cell (World.block_lt_of_cell? w _ hw233_2)).trans hw233_2)⟩ (fun hHeld => ?_)
      clear hK K
      refine nz (some 35) ?_
      refine pz 11 (some 36) (bm 54 4095) HT_ ?_
      refine pz 12 (some 37) (bm 54 8191) HT_ ?_
      refine pz 13 (some 38) (bm 54 16383) HT_ ?_
      refine pz 14 (some 39) (bm 54 32767) HT_ ?_
      refine pz 15 (some 40) (bm 54 65535) HT_ ?_
      refine pz 16 (some 41) (bm 54 131071) HT_ ?_
      refine pz 18 (some 43) (bm 54 393215) HT_ ?_
      refine pz 19 (some 44) (bm 54 917503) HT_ ?_
      refine pz 20 (some 45) (bm 54 1966079) HT_ ?_
      refine pz 21 (some 46) (bm 54 4063231) HT_ ?_
      refine tz 17 (some 42) (bm 54 4194303) HT_ HW_ hHeld ?_
      refine tz 22 (some 47) (bm 54 8388607) HT_ HW_ hHeld ?_
      refine one_ (i := 23) (N := some 48) (bm 54 16777215) rfl rfl (one_of HT_.out (by kernel_rfl)) (by decide) (fun K hK => ?_)
      refine goes_ Tryz.func59 (by kernel_rfl) rfl #[.string ((rd_T29 l0 x3_1).f1), .string ((rd_T29 l0 x4_2).f1)] (by rfl) rfl rfl (zq7) ?_
      with_reducible refine (dialtoneref12_apart.calls ((rd_T29 l0 x3_1).f1) ((rd_T29 l0 x4_2).f1) true _ A15.out).mono ?_
      rintro e w' ⟨rfl, ⟨nd, rfl⟩⟩
      refine ⟨_, rfl, ?_⟩
      refine hK.out _ _ ⟨((HB.out.cell (World.block_lt_of_cell? w _ hw226_0)).trans hw226_0), ((HB.out.cell (World.block_lt_of_cell? w _ hw226_1)).trans hw226_1), ((HB.out.cell (World.block_lt_of_cell? w _ hw226_2)).trans hw226_2), ((HB.out.cell (World.block_lt_of_cell? w _ hw227_0)).trans hw227_0), ((HB.out.cell (World.block_lt_of_cell? w _ hw227_1)).trans hw227_1), ((HB.out.cell (World.block_lt_of_cell? w _ hw227_2)).trans hw227_2), ((HB.out.cell (World.block_lt_of_cell? w _ hw229_0)).trans hw229_0), ((HB.out.cell (World.block_lt_of_cell? w _ hw229_1)).trans hw229_1), ((HB.out.cell (World.block_lt_of_cell? w _ hw229_2)).trans hw229_2), ((HB.out.cell (World.block_lt_of_cell? w _ hw230_0)).trans hw230_0), ((HB.out.cell (World.block_lt_of_cell? w _ hw230_1)).trans hw230_1), ((HB.out.cell (World.block_lt_of_cell? w _ hw230_2)).trans hw230_2), ((HB.out.cell (World.block_lt_of_cell? w _ hw232_0)).trans hw232_0), ((HB.out.cell (World.block_lt_of_cell? w _ hw232_1)).trans hw232_1), ((HB.out.cell (World.block_lt_of_cell? w _ hw232_2)).trans hw232_2), ((HB.out.cell (World.block_lt_of_cell? w _ hw233_0)).trans hw233_0), ((HB.out.cell (World.block_lt_of_cell? w _ hw233_1)).trans hw233_1), ((HB.out.cell (World.block_lt_of_cell? w _ hw233_2)).trans hw233_2)⟩ (fun hHeld => ?_)
      clear hK K
      refine nz (some 48) ?_
      refine pz 24 (some 49) (bm 54 33554431) HT_ ?_
      refine pz 25 (some 50) (bm 54 67108863) HT_ ?_
      refine pz 26 (some 51) (bm 54 134217727) HT_ ?_
      refine pz 27 (some 52) (bm 54 268435455) HT_ ?_
      refine pz 28 (some 53) (bm 54 536870911) HT_ ?_
      refine pz 29 (some 54) (bm 54 1073741823) HT_ ?_
      refine pz 30 (some 55) (bm 54 2147483647) HT_ ?_
      refine pz 32 (some 57) (bm 54 6442450943) HT_ ?_
      refine pz 33 (some 58) (bm 54 15032385535) HT_ ?_
      refine pz 34 (some 59) (bm 54 32212254719) HT_ ?_
      refine pz 35 (some 60) (bm 54 66571993087) HT_ ?_
      refine tz 31 (some 56) (bm 54 68719476735) HT_ HW_ hHeld ?_
      refine tz 36 (some 61) (bm 54 137438953471) HT_ HW_ hHeld ?_
      refine one_ (i := 37) (N := some 62) (bm 54 274877906943) rfl rfl (one_of HT_.out (by kernel_rfl)) (by decide) (fun K hK => ?_)
      refine goes_ Tryz.func59 (by kernel_rfl) rfl #[.string ((rd_T29 l0 x3_1).f0), .string ((rd_T29 l0 x4_2).f1)] (by rfl) rfl rfl (zq7) ?_
      with_reducible refine (dialtoneref12_apart.calls ((rd_T29 l0 x3_1).f0) ((rd_T29 l0 x4_2).f1) false _ A17.out).mono ?_
      rintro e w' ⟨rfl, ⟨nd, rfl⟩⟩
      refine ⟨_, rfl, ?_⟩
      refine hK.out _ _ ⟨((HB.out.cell (World.block_lt_of_cell? w _ hw226_0)).trans hw226_0), ((HB.out.cell (World.block_lt_of_cell? w _ hw226_1)).trans hw226_1), ((HB.out.cell (World.block_lt_of_cell? w _ hw226_2)).trans hw226_2), ((HB.out.cell (World.block_lt_of_cell? w _ hw227_0)).trans hw227_0), ((HB.out.cell (World.block_lt_of_cell? w _ hw227_1)).trans hw227_1), ((HB.out.cell (World.block_lt_of_cell? w _ hw227_2)).trans hw227_2), ((HB.out.cell (World.block_lt_of_cell? w _ hw229_0)).trans hw229_0), ((HB.out.cell (World.block_lt_of_cell? w _ hw229_1)).trans hw229_1), ((HB.out.cell (World.block_lt_of_cell? w _ hw229_2)).trans hw229_2), ((HB.out.cell (World.block_lt_of_cell? w _ hw230_0)).trans hw230_0), ((HB.out.cell (World.block_lt_of_cell? w _ hw230_1)).trans hw230_1), ((HB.out.cell (World.block_lt_of_cell? w _ hw230_2)).trans hw230_2), ((HB.out.cell (World.block_lt_of_cell? w _ hw232_0)).trans hw232_0), ((HB.out.cell (World.block_lt_of_cell? w _ hw232_1)).trans hw232_1), ((HB.out.cell (World.block_lt_of_cell? w _ hw232_2)).trans hw232_2), ((HB.out.cell (World.block_lt_of_cell? w _ hw233_0)).trans hw233_0), ((HB.out.cell (World.block_lt_of_cell? w _ hw233_1)).trans hw233_1), ((HB.out.cell (World.block_lt_of_cell? w _ hw233_2)).trans hw233_2)⟩ (fun hHeld => ?_)
      clear hK K
      refine nz (some 62) ?_
      refine pz 38 (some 63) (bm 54 549755813887) HT_ ?_
      refine pz 39 (some 64) (bm 54 1099511627775) HT_ ?_
      refine pz 40 (some 65) (bm 54 2199023255551) HT_ ?_
      refine uz 41 (some 66) (bm 54 4398046511103) HT_ ?_
      refine uz 42 (some 67) (bm 54 8796093022207) HT_ ?_
      refine uz 43 (some 68) (bm 54 17592186044415) HT_ ?_
      refine uz 44 (some 69) (bm 54 35184372088831) HT_ ?_
      refine uz 45 (some 70) (bm 54 70368744177663) HT_ ?_
      refine uz 46 (some 71) (bm 54 140737488355327) HT_ ?_
      refine uz 47 (some 72) (bm 54 281474976710655) HT_ ?_
      refine uz 48 (some 73) (bm 54 562949953421311) HT_ ?_
      refine uz 49 (some 74) (bm 54 1125899906842623) HT_ ?_
      refine uz 50 (some 75) (bm 54 2251799813685247) HT_ ?_
      refine uz 51 (some 76) (bm 54 4503599627370495) HT_ ?_
      refine uz 52 (some 77) (bm 54 9007199254740991) HT_ ?_
      refine pz 53 (some 78) (bm 54 18014398509481983) HT_ ?_
      refine done_ (done_of HT_.out (by kernel_rfl)) ?_
      try go_wp2
      go_ret
      exact ⟨zq6, zq5⟩
     subst c18
     rw [if_pos rfl] at H
     replace H := Option.bind_eq_some_iff.mp H
     obtain ⟨t237, A190, H⟩ := H
     try dsimp only at H
     have A19 := Aside0.mk A190
     clear A190
     by_cases c20 : t237 = true
     rotate_left
     ·replace c20 := Bool.eq_false_iff.mpr c20
      subst c20
      rw [if_neg (show ¬ (false = true) by decide)] at H
      obtain rfl := Option.some.inj H
      try go_wp2
      replace HB := Aside0.mk (below_drew1 HB.out)
      have p226 : 0 ≤ (x3_1 : Int) := of_decide_eq_true (zq18)
      have q226 : x3_1 < (l0.length : Int) := of_decide_eq_true (zq18)
      obtain ⟨ad226, e226, hx226_0, hx226_1, hx226_2⟩ := at_T29 HR0.out x3_1 p226 q226
      have hw226_2 := hx226_2
      have hw226_1 := hx226_1
      have hw226_0 := hx226_0
      obtain rfl : ad224 = ad226 := (by injection e226)
      replace hx226_0 := (HB.out.cell (World.block_lt_of_cell? w _ hx226_0)).trans hx226_0
      replace hx226_1 := (HB.out.cell (World.block_lt_of_cell? w _ hx226_1)).trans hx226_1
      replace hx226_2 := (HB.out.cell (World.block_lt_of_cell? w _ hx226_2)).trans hx226_2
      replace p226 := eq_true p226
      replace q226 := eq_true q226
      have p227 : 0 ≤ (x4_2 : Int) := of_decide_eq_true (zq18)
      have q227 : x4_2 < (l0.length : Int) := of_decide_eq_true (zq18)
      obtain ⟨ad227, e227, hx227_0, hx227_1, hx227_2⟩ := at_T29 HR0.out x4_2 p227 q227
      have hw227_2 := hx227_2
      have hw227_1 := hx227_1
      have hw227_0 := hx227_0
      obtain rfl : ad224 = ad227 := (by injection e227)
      replace hx227_0 := (HB.out.cell (World.block_lt_of_cell? w _ hx227_0)).trans hx227_0
      replace hx227_1 := (HB.out.cell (World.block_lt_of_cell? w _ hx227_1)).trans hx227_1
      replace hx227_2 := (HB.out.cell (World.block_lt_of_cell? w _ hx227_2)).trans hx227_2
      replace p227 := eq_true p227
      replace q227 := eq_true q227
      have p229 : 0 ≤ (x3_1 : Int) := of_decide_eq_true (zq18)
      have q229 : x3_1 < (l0.length : Int) := of_decide_eq_true (zq18)
      obtain ⟨ad229, e229, hx229_0, hx229_1, hx229_2⟩ := at_T29 HR0.out x3_1 p229 q229
      have hw229_2 := hx229_2
      have hw229_1 := hx229_1
      have hw229_0 := hx229_0
      obtain rfl : ad224 = ad229 := (by injection e229)
      replace hx229_0 := (HB.out.cell (World.block_lt_of_cell? w _ hx229_0)).trans hx229_0
      replace hx229_1 := (HB.out.cell (World.block_lt_of_cell? w _ hx229_1)).trans hx229_1
      replace hx229_2 := (HB.out.cell (World.block_lt_of_cell? w _ hx229_2)).trans hx229_2
      replace p229 := eq_true p229
      replace q229 := eq_true q229
      have p230 : 0 ≤ (x4_2 : Int) := of_decide_eq_true (zq18)
      have q230 : x4_2 < (l0.length : Int) := of_decide_eq_true (zq18)
      obtain ⟨ad230, e230, hx230_0, hx230_1, hx230_2⟩ := at_T29 HR0.out x4_2 p230 q230
      have hw230_2 := hx230_2
      have hw230_1 := hx230_1
      have hw230_0 := hx230_0
      obtain rfl : ad224 = ad230 := (by injection e230)
      replace hx230_0 := (HB.out.cell (World.block_lt_of_cell? w _ hx230_0)).trans hx230_0
      replace hx230_1 := (HB.out.cell (World.block_lt_of_cell? w _ hx230_1)).trans hx230_1
      replace hx230_2 := (HB.out.cell (World.block_lt_of_cell? w _ hx230_2)).trans hx230_2
      replace p230 := eq_true p230
      replace q230 := eq_true q230
      have p232 : 0 ≤ (x3_1 : Int) := of_decide_eq_true (zq18)
      have q232 : x3_1 < (l0.length : Int) := of_decide_eq_true (zq18)
      obtain ⟨ad232, e232, hx232_0, hx232_1, hx232_2⟩ := at_T29 HR0.out x3_1 p232 q232
      have hw232_2 := hx232_2
      have hw232_1 := hx232_1
      have hw232_0 := hx232_0
      obtain rfl : ad224 = ad232 := (by injection e232)
      replace hx232_0 := (HB.out.cell (World.block_lt_of_cell? w _ hx232_0)).trans hx232_0
      replace hx232_1 := (HB.out.cell (World.block_lt_of_cell? w _ hx232_1)).trans hx232_1
      replace hx232_2 := (HB.out.cell (World.block_lt_of_cell? w _ hx232_2)).trans hx232_2
      replace p232 := eq_true p232
      replace q232 := eq_true q232
      have p233 : 0 ≤ (x4_2 : Int) := of_decide_eq_true (zq18)
      have q233 : x4_2 < (l0.length : Int) := of_decide_eq_true (zq18)
      obtain ⟨ad233, e233, hx233_0, hx233_1, hx233_2⟩ := at_T29 HR0.out x4_2 p233 q233
      have hw233_2 := hx233_2
      have hw233_1 := hx233_1
      have hw233_0 := hx233_0
      obtain rfl : ad224 = ad233 := (by injection e233)
      replace hx233_0 := (HB.out.cell (World.block_lt_of_cell? w _ hx233_0)).trans hx233_0
      replace hx233_1 := (HB.out.cell (World.block_lt_of_cell? w _ hx233_1)).trans hx233_1
      replace hx233_2 := (HB.out.cell (World.block_lt_of_cell? w _ hx233_2)).trans hx233_2
      replace p233 := eq_true p233
      replace q233 := eq_true q233
      have p235 : 0 ≤ (x3_1 : Int) := of_decide_eq_true (zq18)
      have q235 : x3_1 < (l0.length : Int) := of_decide_eq_true (zq18)
      obtain ⟨ad235, e235, hx235_0, hx235_1, hx235_2⟩ := at_T29 HR0.out x3_1 p235 q235
      have hw235_2 := hx235_2
      have hw235_1 := hx235_1
      have hw235_0 := hx235_0
      obtain rfl : ad224 = ad235 := (by injection e235)
      replace hx235_0 := (HB.out.cell (World.block_lt_of_cell? w _ hx235_0)).trans hx235_0
      replace hx235_1 := (HB.out.cell (World.block_lt_of_cell? w _ hx235_1)).trans hx235_1
      replace hx235_2 := (HB.out.cell (World.block_lt_of_cell? w _ hx235_2)).trans hx235_2
      replace p235 := eq_true p235
      replace q235 := eq_true q235
      have p236 : 0 ≤ (x4_2 : Int) := of_decide_eq_true (zq18)
      have q236 : x4_2 < (l0.length : Int) := of_decide_eq_true (zq18)
      obtain ⟨ad236, e236, hx236_0, hx236_1, hx236_2⟩ := at_T29 HR0.out x4_2 p236 q236
      have hw236_2 := hx236_2
      have hw236_1 := hx236_1
      have hw236_0 := hx236_0
      obtain rfl : ad224 = ad236 := (by injection e236)
      replace hx236_0 := (HB.out.cell (World.block_lt_of_cell? w _ hx236_0)).trans hx236_0
      replace hx236_1 := (HB.out.cell (World.block_lt_of_cell? w _ hx236_1)).trans hx236_1
      replace hx236_2 := (HB.out.cell (World.block_lt_of_cell? w _ hx236_2)).trans hx236_2
      replace p236 := eq_true p236
      replace q236 := eq_true q236
      refine start_ (n := 54) (S := fun w' => w'.cell? (ad224.add ((x3_1).toNat * 3)) = some (.string ((rd_T29 l0 x3_1).f0)) ∧ w'.cell? ⟨(ad224.add ((x3_1).toNat * 3)).block, (ad224.add ((x3_1).toNat * 3)).off + 1, none⟩ = some (.string ((rd_T29 l0 x3_1).f1)) ∧ w'.cell? ⟨(ad224.add ((x3_1).toNat * 3)).block, (ad224.add ((x3_1).toNat * 3)).off + 2, none⟩ = some (.int .i64 ((rd_T29 l0 x3_1).f2)) ∧ w'.cell? (ad224.add ((x4_2).toNat * 3)) = some (.string ((rd_T29 l0 x4_2).f0)) ∧ w'.cell? ⟨(ad224.add ((x4_2).toNat * 3)).block, (ad224.add ((x4_2).toNat * 3)).off + 1, none⟩ = some (.string ((rd_T29 l0 x4_2).f1)) ∧ w'.cell? ⟨(ad224.add ((x4_2).toNat * 3)).block, (ad224.add ((x4_2).toNat * 3)).off + 2, none⟩ = some (.int .i64 ((rd_T29 l0 x4_2).f2)) ∧ w'.cell? (ad224.add ((x3_1).toNat * 3)) = some (.string ((rd_T29 l0 x3_1).f0)) ∧ w'.cell? ⟨(ad224.add ((x3_1).toNat * 3)).block, (ad224.add ((x3_1).toNat * 3)).off + 1, none⟩ = some (.string ((rd_T29 l0 x3_1).f1)) ∧ w'.cell? ⟨(ad224.add ((x3_1).toNat * 3)).block, (ad224.add ((x3_1).toNat * 3)).off + 2, none⟩ = some (.int .i64 ((rd_T29 l0 x3_1).f2)) ∧ w'.cell? (ad224.add ((x4_2).toNat * 3)) = some (.string ((rd_T29 l0 x4_2).f0)) ∧ w'.cell? ⟨(ad224.add ((x4_2).toNat * 3)).block, (ad224.add ((x4_2).toNat * 3)).off + 1, none⟩ = some (.string ((rd_T29 l0 x4_2).f1)) ∧ w'.cell? ⟨(ad224.add ((x4_2).toNat * 3)).block, (ad224.add ((x4_2).toNat * 3)).off + 2, none⟩ = some (.int .i64 ((rd_T29 l0 x4_2).f2)) ∧ w'.cell? (ad224.add ((x3_1).toNat * 3)) = some (.string ((rd_T29 l0 x3_1).f0)) ∧ w'.cell? ⟨(ad224.add ((x3_1).toNat * 3)).block, (ad224.add ((x3_1).toNat * 3)).off + 1, none⟩ = some (.string ((rd_T29 l0 x3_1).f1)) ∧ w'.cell? ⟨(ad224.add ((x3_1).toNat * 3)).block, (ad224.add ((x3_1).toNat * 3)).off + 2, none⟩ = some (.int .i64 ((rd_T29 l0 x3_1).f2)) ∧ w'.cell? (ad224.add ((x4_2).toNat * 3)) = some (.string ((rd_T29 l0 x4_2).f0)) ∧ w'.cell? ⟨(ad224.add ((x4_2).toNat * 3)).block, (ad224.add ((x4_2).toNat * 3)).off + 1, none⟩ = some (.string ((rd_T29 l0 x4_2).f1)) ∧ w'.cell? ⟨(ad224.add ((x4_2).toNat * 3)).block, (ad224.add ((x4_2).toNat * 3)).off + 2, none⟩ = some (.int .i64 ((rd_T29 l0 x4_2).f2)) ∧ w'.cell? (ad224.add ((x3_1).toNat * 3)) = some (.string ((rd_T29 l0 x3_1).f0)) ∧ w'.cell? ⟨(ad224.add ((x3_1).toNat * 3)).block, (ad224.add ((x3_1).toNat * 3)).off + 1, none⟩ = some (.string ((rd_T29 l0 x3_1).f1)) ∧ w'.cell? ⟨(ad224.add ((x3_1).toNat * 3)).block, (ad224.add ((x3_1).toNat * 3)).off + 2, none⟩ = some (.int .i64 ((rd_T29 l0 x3_1).f2)) ∧ w'.cell? (ad224.add ((x4_2).toNat * 3)) = some (.string ((rd_T29 l0 x4_2).f0)) ∧ w'.cell? ⟨(ad224.add ((x4_2).toNat * 3)).block, (ad224.add ((x4_2).toNat * 3)).off + 1, none⟩ = some (.string ((rd_T29 l0 x4_2).f1)) ∧ w'.cell? ⟨(ad224.add ((x4_2).toNat * 3)).block, (ad224.add ((x4_2).toNat * 3)).off + 2, none⟩ = some (.int .i64 ((rd_T29 l0 x4_2).f2))) (ds := []) (bm 54 0) (by kernel_rfl) rfl rfl ⟨((HB.out.cell (World.block_lt_of_cell? w _ hw226_0)).trans hw226_0), ((HB.out.cell (World.block_lt_of_cell? w _ hw226_1)).trans hw226_1), ((HB.out.cell (World.block_lt_of_cell? w _ hw226_2)).trans hw226_2), ((HB.out.cell (World.block_lt_of_cell? w _ hw227_0)).trans hw227_0), ((HB.out.cell (World.block_lt_of_cell? w _ hw227_1)).trans hw227_1), ((HB.out.cell (World.block_lt_of_cell? w _ hw227_2)).trans hw227_2), ((HB.out.cell (World.block_lt_of_cell? w _ hw229_0)).trans hw229_0), ((HB.out.cell (World.block_lt_of_cell? w _ hw229_1)).trans hw229_1), ((HB.out.cell (World.block_lt_of_cell? w _ hw229_2)).trans hw229_2), ((HB.out.cell (World.block_lt_of_cell? w _ hw230_0)).trans hw230_0), ((HB.out.cell (World.block_lt_of_cell? w _ hw230_1)).trans hw230_1), ((HB.out.cell (World.block_lt_of_cell? w _ hw230_2)).trans hw230_2), ((HB.out.cell (World.block_lt_of_cell? w _ hw232_0)).trans hw232_0), ((HB.out.cell (World.block_lt_of_cell? w _ hw232_1)).trans hw232_1), ((HB.out.cell (World.block_lt_of_cell? w _ hw232_2)).trans hw232_2), ((HB.out.cell (World.block_lt_of_cell? w _ hw233_0)).trans hw233_0), ((HB.out.cell (World.block_lt_of_cell? w _ hw233_1)).trans hw233_1), ((HB.out.cell (World.block_lt_of_cell? w _ hw233_2)).trans hw233_2), ((HB.out.cell (World.block_lt_of_cell? w _ hw235_0)).trans hw235_0), ((HB.out.cell (World.block_lt_of_cell? w _ hw235_1)).trans hw235_1), ((HB.out.cell (World.block_lt_of_cell? w _ hw235_2)).trans hw235_2), ((HB.out.cell (World.block_lt_of_cell? w _ hw236_0)).trans hw236_0), ((HB.out.cell (World.block_lt_of_cell? w _ hw236_1)).trans hw236_1), ((HB.out.cell (World.block_lt_of_cell? w _ hw236_2)).trans hw236_2)⟩ (fun hHeld => ?_); refine with_tabW dialtoneref12_Valid.tab11 dialtoneref12_Valid.bits11 (fun HT_ HW_ => ?_)
      generalize wr.drew = w22 at HB hx226_0 hx226_1 hx226_2 hx227_0 hx227_1 hx227_2 hx229_0 hx229_1 hx229_2 hx230_0 hx230_1 hx230_2 hx232_0 hx232_1 hx232_2 hx233_0 hx233_1 hx233_2 hx235_0 hx235_1 hx235_2 hx236_0 hx236_1 hx236_2 hHeld ⊢
      refine pz 0 (some 25) (bm 54 1) HT_ ?_
      refine pz 1 (some 26) (bm 54 3) HT_ ?_
      refine pz 2 (some 27) (bm 54 7) HT_ ?_
      refine pz 3 (some 28) (bm 54 15) HT_ ?_
      refine pz 5 (some 30) (bm 54 47) HT_ ?_
      refine pz 6 (some 31) (bm 54 111) HT_ ?_
      refine pz 7 (some 32) (bm 54 239) HT_ ?_
      refine pz 8 (some 33) (bm 54 495) HT_ ?_
      refine tz 4 (some 29) (bm 54 511) HT_ HW_ hHeld ?_
      refine tz 9 (some 34) (bm 54 1023) HT_ HW_ hHeld ?_
      refine one_ (i := 10) (N := some 35) (bm 54 2047) rfl rfl (one_of HT_.out (by kernel_rfl)) (by decide) (fun K hK => ?_)
      refine goes_ Tryz.func59 (by kernel_rfl) rfl #[.string ((rd_T29 l0 x3_1).f0), .string ((rd_T29 l0 x4_2).f0)] (by rfl) rfl rfl (zq7) ?_
      with_reducible refine (dialtoneref12_apart.calls ((rd_T29 l0 x3_1).f0) ((rd_T29 l0 x4_2).f0) true _ A13.out).mono ?_
      rintro e w' ⟨rfl, ⟨nd, rfl⟩⟩
      refine ⟨_, rfl, ?_⟩
      refine hK.out _ _ ⟨((HB.out.cell (World.block_lt_of_cell? w _ hw226_0)).trans hw226_0), ((HB.out.cell (World.block_lt_of_cell? w _ hw226_1)).trans hw226_1), ((HB.out.cell (World.block_lt_of_cell? w _ hw226_2)).trans hw226_2), ((HB.out.cell (World.block_lt_of_cell? w _ hw227_0)).trans hw227_0), ((HB.out.cell (World.block_lt_of_cell? w _ hw227_1)).trans hw227_1), ((HB.out.cell (World.block_lt_of_cell? w _ hw227_2)).trans hw227_2), ((HB.out.cell (World.block_lt_of_cell? w _ hw229_0)).trans hw229_0), ((HB.out.cell (World.block_lt_of_cell? w _ hw229_1)).trans hw229_1), ((HB.out.cell (World.block_lt_of_cell? w _ hw229_2)).trans hw229_2), ((HB.out.cell (World.block_lt_of_cell? w _ hw230_0)).trans hw230_0), ((HB.out.cell (World.block_lt_of_cell? w _ hw230_1)).trans hw230_1), ((HB.out.cell (World.block_lt_of_cell? w _ hw230_2)).trans hw230_2), ((HB.out.cell (World.block_lt_of_cell? w _ hw232_0)).trans hw232_0), ((HB.out.cell (World.block_lt_of_cell? w _ hw232_1)).trans hw232_1), ((HB.out.cell (World.block_lt_of_cell? w _ hw232_2)).trans hw232_2), ((HB.out.cell (World.block_lt_of_cell? w _ hw233_0)).trans hw233_0), ((HB.out.cell (World.block_lt_of_cell? w _ hw233_1)).trans hw233_1), ((HB.out.cell (World.block_lt_of_cell? w _ hw233_2)).trans hw233_2), ((HB.out.cell (World.block_lt_of_cell? w _ hw235_0)).trans hw235_0), ((HB.out.cell (World.block_lt_of_cell? w _ hw235_1)).trans hw235_1), ((HB.out.cell (World.block_lt_of_cell? w _ hw235_2)).trans hw235_2), ((HB.out.cell (World.block_lt_of_cell? w _ hw236_0)).trans hw236_0), ((HB.out.cell (World.block_lt_of_cell? w _ hw236_1)).trans hw236_1), ((HB.out.cell (World.block_lt_of_cell? w _ hw236_2)).trans hw236_2)⟩ (fun hHeld => ?_)
      clear hK K
      refine nz (some 35) ?_
      refine pz 11 (some 36) (bm 54 4095) HT_ ?_
      refine pz 12 (some 37) (bm 54 8191) HT_ ?_
      refine pz 13 (some 38) (bm 54 16383) HT_ ?_
      refine pz 14 (some 39) (bm 54 32767) HT_ ?_
      refine pz 15 (some 40) (bm 54 65535) HT_ ?_
      refine pz 16 (some 41) (bm 54 131071) HT_ ?_
      refine pz 18 (some 43) (bm 54 393215) HT_ ?_
      refine pz 19 (some 44) (bm 54 917503) HT_ ?_
      refine pz 20 (some 45) (bm 54 1966079) HT_ ?_
      refine pz 21 (some 46) (bm 54 4063231) HT_ ?_
      refine tz 17 (some 42) (bm 54 4194303) HT_ HW_ hHeld ?_
      refine tz 22 (some 47) (bm 54 8388607) HT_ HW_ hHeld ?_
      refine one_ (i := 23) (N := some 48) (bm 54 16777215) rfl rfl (one_of HT_.out (by kernel_rfl)) (by decide) (fun K hK => ?_)
      refine goes_ Tryz.func59 (by kernel_rfl) rfl #[.string ((rd_T29 l0 x3_1).f1), .string ((rd_T29 l0 x4_2).f1)] (by rfl) rfl rfl (zq7) ?_
      with_reducible refine (dialtoneref12_apart.calls ((rd_T29 l0 x3_1).f1) ((rd_T29 l0 x4_2).f1) true _ A15.out).mono ?_
      rintro e w' ⟨rfl, ⟨nd, rfl⟩⟩
      refine ⟨_, rfl, ?_⟩
      refine hK.out _ _ ⟨((HB.out.cell (World.block_lt_of_cell? w _ hw226_0)).trans hw226_0), ((HB.out.cell (World.block_lt_of_cell? w _ hw226_1)).trans hw226_1), ((HB.out.cell (World.block_lt_of_cell? w _ hw226_2)).trans hw226_2), ((HB.out.cell (World.block_lt_of_cell? w _ hw227_0)).trans hw227_0), ((HB.out.cell (World.block_lt_of_cell? w _ hw227_1)).trans hw227_1), ((HB.out.cell (World.block_lt_of_cell? w _ hw227_2)).trans hw227_2), ((HB.out.cell (World.block_lt_of_cell? w _ hw229_0)).trans hw229_0), ((HB.out.cell (World.block_lt_of_cell? w _ hw229_1)).trans hw229_1), ((HB.out.cell (World.block_lt_of_cell? w _ hw229_2)).trans hw229_2), ((HB.out.cell (World.block_lt_of_cell? w _ hw230_0)).trans hw230_0), ((HB.out.cell (World.block_lt_of_cell? w _ hw230_1)).trans hw230_1), ((HB.out.cell (World.block_lt_of_cell? w _ hw230_2)).trans hw230_2), ((HB.out.cell (World.block_lt_of_cell? w _ hw232_0)).trans hw232_0), ((HB.out.cell (World.block_lt_of_cell? w _ hw232_1)).trans hw232_1), ((HB.out.cell (World.block_lt_of_cell? w _ hw232_2)).trans hw232_2), ((HB.out.cell (World.block_lt_of_cell? w _ hw233_0)).trans hw233_0), ((HB.out.cell (World.block_lt_of_cell? w _ hw233_1)).trans hw233_1), ((HB.out.cell (World.block_lt_of_cell? w _ hw233_2)).trans hw233_2), ((HB.out.cell (World.block_lt_of_cell? w _ hw235_0)).trans hw235_0), ((HB.out.cell (World.block_lt_of_cell? w _ hw235_1)).trans hw235_1), ((HB.out.cell (World.block_lt_of_cell? w _ hw235_2)).trans hw235_2), ((HB.out.cell (World.block_lt_of_cell? w _ hw236_0)).trans hw236_0), ((HB.out.cell (World.block_lt_of_cell? w _ hw236_1)).trans hw236_1), ((HB.out.cell (World.block_lt_of_cell? w _ hw236_2)).trans hw236_2)⟩ (fun hHeld => ?_)
      clear hK K
      refine nz (some 48) ?_
      refine pz 24 (some 49) (bm 54 33554431) HT_ ?_
      refine pz 25 (some 50) (bm 54 67108863) HT_ ?_
      refine pz 26 (some 51) (bm 54 134217727) HT_ ?_
      refine pz 27 (some 52) (bm 54 268435455) HT_ ?_
      refine pz 28 (some 53) (bm 54 536870911) HT_ ?_
      refine pz 29 (some 54) (bm 54 1073741823) HT_ ?_
      refine pz 30 (some 55) (bm 54 2147483647) HT_ ?_
      refine pz 32 (some 57) (bm 54 6442450943) HT_ ?_
      refine pz 33 (some 58) (bm 54 15032385535) HT_ ?_
      refine pz 34 (some 59) (bm 54 32212254719) HT_ ?_
      refine pz 35 (some 60) (bm 54 66571993087) HT_ ?_
      refine tz 31 (some 56) (bm 54 68719476735) HT_ HW_ hHeld ?_
      refine tz 36 (some 61) (bm 54 137438953471) HT_ HW_ hHeld ?_
      refine one_ (i := 37) (N := some 62) (bm 54 274877906943) rfl rfl (one_of HT_.out (by kernel_rfl)) (by decide) (fun K hK => ?_)
      refine goes_ Tryz.func59 (by kernel_rfl) rfl #[.string ((rd_T29 l0 x3_1).f0), .string ((rd_T29 l0 x4_2).f1)] (by rfl) rfl rfl (zq7) ?_
      with_reducible refine (dialtoneref12_apart.calls ((rd_T29 l0 x3_1).f0) ((rd_T29 l0 x4_2).f1) true _ A17.out).mono ?_
      rintro e w' ⟨rfl, ⟨nd, rfl⟩⟩
      refine ⟨_, rfl, ?_⟩
      refine hK.out _ _ ⟨((HB.out.cell (World.block_lt_of_cell? w _ hw226_0)).trans hw226_0), ((HB.out.cell (World.block_lt_of_cell? w _ hw226_1)).trans hw226_1), ((HB.out.cell (World.block_lt_of_cell? w _ hw226_2)).trans hw226_2), ((HB.out.cell (World.block_lt_of_cell? w _ hw227_0)).trans hw227_0), ((HB.out.cell (World.block_lt_of_cell? w _ hw227_1)).trans hw227_1), ((HB.out.cell (World.block_lt_of_cell? w _ hw227_2)).trans hw227_2), ((HB.out.cell (World.block_lt_of_cell? w _ hw229_0)).trans hw229_0), ((HB.out.cell (World.block_lt_of_cell? w _ hw229_1)).trans hw229_1), ((HB.out.cell (World.block_lt_of_cell? w _ hw229_2)).trans hw229_2), ((HB.out.cell (World.block_lt_of_cell? w _ hw230_0)).trans hw230_0), ((HB.out.cell (World.block_lt_of_cell? w _ hw230_1)).trans hw230_1), ((HB.out.cell (World.block_lt_of_cell? w _ hw230_2)).trans hw230_2), ((HB.out.cell (World.block_lt_of_cell? w _ hw232_0)).trans hw232_0), ((HB.out.cell (World.block_lt_of_cell? w _ hw232_1)).trans hw232_1), ((HB.out.cell (World.block_lt_of_cell? w _ hw232_2)).trans hw232_2), ((HB.out.cell (World.block_lt_of_cell? w _ hw233_0)).trans hw233_0), ((HB.out.cell (World.block_lt_of_cell? w _ hw233_1)).trans hw233_1), ((HB.out.cell (World.block_lt_of_cell? w _ hw233_2)).trans hw233_2), ((HB.out.cell (World.block_lt_of_cell? w _ hw235_0)).trans hw235_0), ((HB.out.cell (World.block_lt_of_cell? w _ hw235_1)).trans hw235_1), ((HB.out.cell (World.block_lt_of_cell? w _ hw235_2)).trans hw235_2), ((HB.out.cell (World.block_lt_of_cell? w _ hw236_0)).trans hw236_0), ((HB.out.cell (World.block_lt_of_cell? w _ hw236_1)).trans hw236_1), ((HB.out.cell (World.block_lt_of_cell? w _ hw236_2)).trans hw236_2)⟩ (fun hHeld => ?_)
      clear hK K
      refine nz (some 62) ?_
      refine pz 38 (some 63) (bm 54 549755813887) HT_ ?_
      refine pz 39 (some 64) (bm 54 1099511627775) HT_ ?_
      refine pz 40 (some 65) (bm 54 2199023255551) HT_ ?_
      refine pz 41 (some 66) (bm 54 4398046511103) HT_ ?_
      refine pz 42 (some 67) (bm 54 8796093022207) HT_ ?_
      refine pz 43 (some 68) (bm 54 17592186044415) HT_ ?_
      refine pz 44 (some 69) (bm 54 35184372088831) HT_ ?_
      refine pz 46 (some 71) (bm 54 105553116266495) HT_ ?_
      refine pz 47 (some 72) (bm 54 246290604621823) HT_ ?_
      refine pz 48 (some 73) (bm 54 527765581332479) HT_ ?_
      refine pz 49 (some 74) (bm 54 1090715534753791) HT_ ?_
      refine tz 45 (some 70) (bm 54 1125899906842623) HT_ HW_ hHeld ?_
      refine tz 50 (some 75) (bm 54 2251799813685247) HT_ HW_ hHeld ?_
      refine one_ (i := 51) (N := some 76) (bm 54 4503599627370495) rfl rfl (one_of HT_.out (by kernel_rfl)) (by decide) (fun K hK => ?_)
      refine goes_ Tryz.func59 (by kernel_rfl) rfl #[.string ((rd_T29 l0 x3_1).f1), .string ((rd_T29 l0 x4_2).f0)] (by rfl) rfl rfl (zq7) ?_
      with_reducible refine (dialtoneref12_apart.calls ((rd_T29 l0 x3_1).f1) ((rd_T29 l0 x4_2).f0) false _ A19.out).mono ?_
      rintro e w' ⟨rfl, ⟨nd, rfl⟩⟩
      refine ⟨_, rfl, ?_⟩
      refine hK.out _ _ ⟨((HB.out.cell (World.block_lt_of_cell? w _ hw226_0)).trans hw226_0), ((HB.out.cell (World.block_lt_of_cell? w _ hw226_1)).trans hw226_1), ((HB.out.cell (World.block_lt_of_cell? w _ hw226_2)).trans hw226_2), ((HB.out.cell (World.block_lt_of_cell? w _ hw227_0)).trans hw227_0), ((HB.out.cell (World.block_lt_of_cell? w _ hw227_1)).trans hw227_1), ((HB.out.cell (World.block_lt_of_cell? w _ hw227_2)).trans hw227_2), ((HB.out.cell (World.block_lt_of_cell? w _ hw229_0)).trans hw229_0), ((HB.out.cell (World.block_lt_of_cell? w _ hw229_1)).trans hw229_1), ((HB.out.cell (World.block_lt_of_cell? w _ hw229_2)).trans hw229_2), ((HB.out.cell (World.block_lt_of_cell? w _ hw230_0)).trans hw230_0), ((HB.out.cell (World.block_lt_of_cell? w _ hw230_1)).trans hw230_1), ((HB.out.cell (World.block_lt_of_cell? w _ hw230_2)).trans hw230_2), ((HB.out.cell (World.block_lt_of_cell? w _ hw232_0)).trans hw232_0), ((HB.out.cell (World.block_lt_of_cell? w _ hw232_1)).trans hw232_1), ((HB.out.cell (World.block_lt_of_cell? w _ hw232_2)).trans hw232_2), ((HB.out.cell (World.block_lt_of_cell? w _ hw233_0)).trans hw233_0), ((HB.out.cell (World.block_lt_of_cell? w _ hw233_1)).trans hw233_1), ((HB.out.cell (World.block_lt_of_cell? w _ hw233_2)).trans hw233_2), ((HB.out.cell (World.block_lt_of_cell? w _ hw235_0)).trans hw235_0), ((HB.out.cell (World.block_lt_of_cell? w _ hw235_1)).trans hw235_1), ((HB.out.cell (World.block_lt_of_cell? w _ hw235_2)).trans hw235_2), ((HB.out.cell (World.block_lt_of_cell? w _ hw236_0)).trans hw236_0), ((HB.out.cell (World.block_lt_of_cell? w _ hw236_1)).trans hw236_1), ((HB.out.cell (World.block_lt_of_cell? w _ hw236_2)).trans hw236_2)⟩ (fun hHeld => ?_)
      clear hK K
      refine nz (some 76) ?_
      refine pz 52 (some 77) (bm 54 9007199254740991) HT_ ?_
      refine pz 53 (some 78) (bm 54 18014398509481983) HT_ ?_
      refine done_ (done_of HT_.out (by kernel_rfl)) ?_
      try go_wp2
      go_ret
      exact ⟨zq6, zq5⟩
     subst c20
     rw [if_pos rfl] at H
     have H' := Aside0.mk H
     clear H
     try go_wp2
     replace HB := Aside0.mk (below_drew1 HB.out)
     have p226 : 0 ≤ (x3_1 : Int) := of_decide_eq_true (zq18)
     have q226 : x3_1 < (l0.length : Int) := of_decide_eq_true (zq18)
     obtain ⟨ad226, e226, hx226_0, hx226_1, hx226_2⟩ := at_T29 HR0.out x3_1 p226 q226
     have hw226_2 := hx226_2
     have hw226_1 := hx226_1
     have hw226_0 := hx226_0
     obtain rfl : ad224 = ad226 := (by injection e226)
     replace hx226_0 := (HB.out.cell (World.block_lt_of_cell? w _ hx226_0)).trans hx226_0
     replace hx226_1 := (HB.out.cell (World.block_lt_of_cell? w _ hx226_1)).trans hx226_1
     replace hx226_2 := (HB.out.cell (World.block_lt_of_cell? w _ hx226_2)).trans hx226_2
     replace p226 := eq_true p226
     replace q226 := eq_true q226
     have p227 : 0 ≤ (x4_2 : Int) := of_decide_eq_true (zq18)
     have q227 : x4_2 < (l0.length : Int) := of_decide_eq_true (zq18)
     obtain ⟨ad227, e227, hx227_0, hx227_1, hx227_2⟩ := at_T29 HR0.out x4_2 p227 q227
     have hw227_2 := hx227_2
     have hw227_1 := hx227_1
     have hw227_0 := hx227_0
     obtain rfl : ad224 = ad227 := (by injection e227)
     replace hx227_0 := (HB.out.cell (World.block_lt_of_cell? w _ hx227_0)).trans hx227_0
     replace hx227_1 := (HB.out.cell (World.block_lt_of_cell? w _ hx227_1)).trans hx227_1
     replace hx227_2 := (HB.out.cell (World.block_lt_of_cell? w _ hx227_2)).trans hx227_2
     replace p227 := eq_true p227
     replace q227 := eq_true q227
     have p229 : 0 ≤ (x3_1 : Int) := of_decide_eq_true (zq18)
     have q229 : x3_1 < (l0.length : Int) := of_decide_eq_true (zq18)
     obtain ⟨ad229, e229, hx229_0, hx229_1, hx229_2⟩ := at_T29 HR0.out x3_1 p229 q229
     have hw229_2 := hx229_2
     have hw229_1 := hx229_1
     have hw229_0 := hx229_0
     obtain rfl : ad224 = ad229 := (by injection e229)
     replace hx229_0 := (HB.out.cell (World.block_lt_of_cell? w _ hx229_0)).trans hx229_0
     replace hx229_1 := (HB.out.cell (World.block_lt_of_cell? w _ hx229_1)).trans hx229_1
     replace hx229_2 := (HB.out.cell (World.block_lt_of_cell? w _ hx229_2)).trans hx229_2
     replace p229 := eq_true p229
     replace q229 := eq_true q229
     have p230 : 0 ≤ (x4_2 : Int) := of_decide_eq_true (zq18)
     have q230 : x4_2 < (l0.length : Int) := of_decide_eq_true (zq18)
     obtain ⟨ad230, e230, hx230_0, hx230_1, hx230_2⟩ := at_T29 HR0.out x4_2 p230 q230
     have hw230_2 := hx230_2
     have hw230_1 := hx230_1
     have hw230_0 := hx230_0
     obtain rfl : ad224 = ad230 := (by injection e230)
     replace hx230_0 := (HB.out.cell (World.block_lt_of_cell? w _ hx230_0)).trans hx230_0
     replace hx230_1 := (HB.out.cell (World.block_lt_of_cell? w _ hx230_1)).trans hx230_1
     replace hx230_2 := (HB.out.cell (World.block_lt_of_cell? w _ hx230_2)).trans hx230_2
     replace p230 := eq_true p230
     replace q230 := eq_true q230
     have p232 : 0 ≤ (x3_1 : Int) := of_decide_eq_true (zq18)
     have q232 : x3_1 < (l0.length : Int) := of_decide_eq_true (zq18)
     obtain ⟨ad232, e232, hx232_0, hx232_1, hx232_2⟩ := at_T29 HR0.out x3_1 p232 q232
     have hw232_2 := hx232_2
     have hw232_1 := hx232_1
     have hw232_0 := hx232_0
     obtain rfl : ad224 = ad232 := (by injection e232)
     replace hx232_0 := (HB.out.cell (World.block_lt_of_cell? w _ hx232_0)).trans hx232_0
     replace hx232_1 := (HB.out.cell (World.block_lt_of_cell? w _ hx232_1)).trans hx232_1
     replace hx232_2 := (HB.out.cell (World.block_lt_of_cell? w _ hx232_2)).trans hx232_2
     replace p232 := eq_true p232
     replace q232 := eq_true q232
     have p233 : 0 ≤ (x4_2 : Int) := of_decide_eq_true (zq18)
     have q233 : x4_2 < (l0.length : Int) := of_decide_eq_true (zq18)
     obtain ⟨ad233, e233, hx233_0, hx233_1, hx233_2⟩ := at_T29 HR0.out x4_2 p233 q233
     have hw233_2 := hx233_2
     have hw233_1 := hx233_1
     have hw233_0 := hx233_0
     obtain rfl : ad224 = ad233 := (by injection e233)
     replace hx233_0 := (HB.out.cell (World.block_lt_of_cell? w _ hx233_0)).trans hx233_0
     replace hx233_1 := (HB.out.cell (World.block_lt_of_cell? w _ hx233_1)).trans hx233_1
     replace hx233_2 := (HB.out.cell (World.block_lt_of_cell? w _ hx233_2)).trans hx233_2
     replace p233 := eq_true p233
     replace q233 := eq_true q233
     have p235 : 0 ≤ (x3_1 : Int) := of_decide_eq_true (zq18)
     have q235 : x3_1 < (l0.length : Int) := of_decide_eq_true (zq18)
     obtain ⟨ad235, e235, hx235_0, hx235_1, hx235_2⟩ := at_T29 HR0.out x3_1 p235 q235
     have hw235_2 := hx235_2
     have hw235_1 := hx235_1
     have hw235_0 := hx235_0
     obtain rfl : ad224 = ad235 := (by injection e235)
     replace hx235_0 := (HB.out.cell (World.block_lt_of_cell? w _ hx235_0)).trans hx235_0
     replace hx235_1 := (HB.out.cell (World.block_lt_of_cell? w _ hx235_1)).trans hx235_1
     replace hx235_2 := (HB.out.cell (World.block_lt_of_cell? w _ hx235_2)).trans hx235_2
     replace p235 := eq_true p235
     replace q235 := eq_true q235
     have p236 : 0 ≤ (x4_2 : Int) := of_decide_eq_true (zq18)
     have q236 : x4_2 < (l0.length : Int) := of_decide_eq_true (zq18)
     obtain ⟨ad236, e236, hx236_0, hx236_1, hx236_2⟩ := at_T29 HR0.out x4_2 p236 q236
     have hw236_2 := hx236_2
     have hw236_1 := hx236_1
     have hw236_0 := hx236_0
     obtain rfl : ad224 = ad236 := (by injection e236)
     replace hx236_0 := (HB.out.cell (World.block_lt_of_cell? w _ hx236_0)).trans hx236_0
     replace hx236_1 := (HB.out.cell (World.block_lt_of_cell? w _ hx236_1)).trans hx236_1
     replace hx236_2 := (HB.out.cell (World.block_lt_of_cell? w _ hx236_2)).trans hx236_2
     replace p236 := eq_true p236
     replace q236 := eq_true q236
     refine start_ (n := 54) (S := fun w' => w'.cell? (ad224.add ((x3_1).toNat * 3)) = some (.string ((rd_T29 l0 x3_1).f0)) ∧ w'.cell? ⟨(ad224.add ((x3_1).toNat * 3)).block, (ad224.add ((x3_1).toNat * 3)).off + 1, none⟩ = some (.string ((rd_T29 l0 x3_1).f1)) ∧ w'.cell? ⟨(ad224.add ((x3_1).toNat * 3)).block, (ad224.add ((x3_1).toNat * 3)).off + 2, none⟩ = some (.int .i64 ((rd_T29 l0 x3_1).f2)) ∧ w'.cell? (ad224.add ((x4_2).toNat * 3)) = some (.string ((rd_T29 l0 x4_2).f0)) ∧ w'.cell? ⟨(ad224.add ((x4_2).toNat * 3)).block, (ad224.add ((x4_2).toNat * 3)).off + 1, none⟩ = some (.string ((rd_T29 l0 x4_2).f1)) ∧ w'.cell? ⟨(ad224.add ((x4_2).toNat * 3)).block, (ad224.add ((x4_2).toNat * 3)).off + 2, none⟩ = some (.int .i64 ((rd_T29 l0 x4_2).f2)) ∧ w'.cell? (ad224.add ((x3_1).toNat * 3)) = some (.string ((rd_T29 l0 x3_1).f0)) ∧ w'.cell? ⟨(ad224.add ((x3_1).toNat * 3)).block, (ad224.add ((x3_1).toNat * 3)).off + 1, none⟩ = some (.string ((rd_T29 l0 x3_1).f1)) ∧ w'.cell? ⟨(ad224.add ((x3_1).toNat * 3)).block, (ad224.add ((x3_1).toNat * 3)).off + 2, none⟩ = some (.int .i64 ((rd_T29 l0 x3_1).f2)) ∧ w'.cell? (ad224.add ((x4_2).toNat * 3)) = some (.string ((rd_T29 l0 x4_2).f0)) ∧ w'.cell? ⟨(ad224.add ((x4_2).toNat * 3)).block, (ad224.add ((x4_2).toNat * 3)).off + 1, none⟩ = some (.string ((rd_T29 l0 x4_2).f1)) ∧ w'.cell? ⟨(ad224.add ((x4_2).toNat * 3)).block, (ad224.add ((x4_2).toNat * 3)).off + 2, none⟩ = some (.int .i64 ((rd_T29 l0 x4_2).f2)) ∧ w'.cell? (ad224.add ((x3_1).toNat * 3)) = some (.string ((rd_T29 l0 x3_1).f0)) ∧ w'.cell? ⟨(ad224.add ((x3_1).toNat * 3)).block, (ad224.add ((x3_1).toNat * 3)).off + 1, none⟩ = some (.string ((rd_T29 l0 x3_1).f1)) ∧ w'.cell? ⟨(ad224.add ((x3_1).toNat * 3)).block, (ad224.add ((x3_1).toNat * 3)).off + 2, none⟩ = some (.int .i64 ((rd_T29 l0 x3_1).f2)) ∧ w'.cell? (ad224.add ((x4_2).toNat * 3)) = some (.string ((rd_T29 l0 x4_2).f0)) ∧ w'.cell? ⟨(ad224.add ((x4_2).toNat * 3)).block, (ad224.add ((x4_2).toNat * 3)).off + 1, none⟩ = some (.string ((rd_T29 l0 x4_2).f1)) ∧ w'.cell? ⟨(ad224.add ((x4_2).toNat * 3)).block, (ad224.add ((x4_2).toNat * 3)).off + 2, none⟩ = some (.int .i64 ((rd_T29 l0 x4_2).f2)) ∧ w'.cell? (ad224.add ((x3_1).toNat * 3)) = some (.string ((rd_T29 l0 x3_1).f0)) ∧ w'.cell? ⟨(ad224.add ((x3_1).toNat * 3)).block, (ad224.add ((x3_1).toNat * 3)).off + 1, none⟩ = some (.string ((rd_T29 l0 x3_1).f1)) ∧ w'.cell? ⟨(ad224.add ((x3_1).toNat * 3)).block, (ad224.add ((x3_1).toNat * 3)).off + 2, none⟩ = some (.int .i64 ((rd_T29 l0 x3_1).f2)) ∧ w'.cell? (ad224.add ((x4_2).toNat * 3)) = some (.string ((rd_T29 l0 x4_2).f0)) ∧ w'.cell? ⟨(ad224.add ((x4_2).toNat * 3)).block, (ad224.add ((x4_2).toNat * 3)).off + 1, none⟩ = some (.string ((rd_T29 l0 x4_2).f1)) ∧ w'.cell? ⟨(ad224.add ((x4_2).toNat * 3)).block, (ad224.add ((x4_2).toNat * 3)).off + 2, none⟩ = some (.int .i64 ((rd_T29 l0 x4_2).f2))) (ds := []) (bm 54 0) (by kernel_rfl) rfl rfl ⟨((HB.out.cell (World.block_lt_of_cell? w _ hw226_0)).trans hw226_0), ((HB.out.cell (World.block_lt_of_cell? w _ hw226_1)).trans hw226_1), ((HB.out.cell (World.block_lt_of_cell? w _ hw226_2)).trans hw226_2), ((HB.out.cell (World.block_lt_of_cell? w _ hw227_0)).trans hw227_0), ((HB.out.cell (World.block_lt_of_cell? w _ hw227_1)).trans hw227_1), ((HB.out.cell (World.block_lt_of_cell? w _ hw227_2)).trans hw227_2), ((HB.out.cell (World.block_lt_of_cell? w _ hw229_0)).trans hw229_0), ((HB.out.cell (World.block_lt_of_cell? w _ hw229_1)).trans hw229_1), ((HB.out.cell (World.block_lt_of_cell? w _ hw229_2)).trans hw229_2), ((HB.out.cell (World.block_lt_of_cell? w _ hw230_0)).trans hw230_0), ((HB.out.cell (World.block_lt_of_cell? w _ hw230_1)).trans hw230_1), ((HB.out.cell (World.block_lt_of_cell? w _ hw230_2)).trans hw230_2), ((HB.out.cell (World.block_lt_of_cell? w _ hw232_0)).trans hw232_0), ((HB.out.cell (World.block_lt_of_cell? w _ hw232_1)).trans hw232_1), ((HB.out.cell (World.block_lt_of_cell? w _ hw232_2)).trans hw232_2), ((HB.out.cell (World.block_lt_of_cell? w _ hw233_0)).trans hw233_0), ((HB.out.cell (World.block_lt_of_cell? w _ hw233_1)).trans hw233_1), ((HB.out.cell (World.block_lt_of_cell? w _ hw233_2)).trans hw233_2), ((HB.out.cell (World.block_lt_of_cell? w _ hw235_0)).trans hw235_0), ((HB.out.cell (World.block_lt_of_cell? w _ hw235_1)).trans hw235_1), ((HB.out.cell (World.block_lt_of_cell? w _ hw235_2)).trans hw235_2), ((HB.out.cell (World.block_lt_of_cell? w _ hw236_0)).trans hw236_0), ((HB.out.cell (World.block_lt_of_cell? w _ hw236_1)).trans hw236_1), ((HB.out.cell (World.block_lt_of_cell? w _ hw236_2)).trans hw236_2)⟩ (fun hHeld => ?_); refine with_tabW dialtoneref12_Valid.tab11 dialtoneref12_Valid.bits11 (fun HT_ HW_ => ?_)
     generalize wr.drew = w21 at HB hx226_0 hx226_1 hx226_2 hx227_0 hx227_1 hx227_2 hx229_0 hx229_1 hx229_2 hx230_0 hx230_1 hx230_2 hx232_0 hx232_1 hx232_2 hx233_0 hx233_1 hx233_2 hx235_0 hx235_1 hx235_2 hx236_0 hx236_1 hx236_2 hHeld ⊢
     refine pz 0 (some 25) (bm 54 1) HT_ ?_
     refine pz 1 (some 26) (bm 54 3) HT_ ?_
     refine pz 2 (some 27) (bm 54 7) HT_ ?_
     refine pz 3 (some 28) (bm 54 15) HT_ ?_
     refine pz 5 (some 30) (bm 54 47) HT_ ?_
     refine pz 6 (some 31) (bm 54 111) HT_ ?_
     refine pz 7 (some 32) (bm 54 239) HT_ ?_
     refine pz 8 (some 33) (bm 54 495) HT_ ?_
     refine tz 4 (some 29) (bm 54 511) HT_ HW_ hHeld ?_
     refine tz 9 (some 34) (bm 54 1023) HT_ HW_ hHeld ?_
     refine one_ (i := 10) (N := some 35) (bm 54 2047) rfl rfl (one_of HT_.out (by kernel_rfl)) (by decide) (fun K hK => ?_)
     refine goes_ Tryz.func59 (by kernel_rfl) rfl #[.string ((rd_T29 l0 x3_1).f0), .string ((rd_T29 l0 x4_2).f0)] (by rfl) rfl rfl (zq7) ?_
     with_reducible refine (dialtoneref12_apart.calls ((rd_T29 l0 x3_1).f0) ((rd_T29 l0 x4_2).f0) true _ A13.out).mono ?_
     rintro e w' ⟨rfl, ⟨nd, rfl⟩⟩
     refine ⟨_, rfl, ?_⟩
     refine hK.out _ _ ⟨((HB.out.cell (World.block_lt_of_cell? w _ hw226_0)).trans hw226_0), ((HB.out.cell (World.block_lt_of_cell? w _ hw226_1)).trans hw226_1), ((HB.out.cell (World.block_lt_of_cell? w _ hw226_2)).trans hw226_2), ((HB.out.cell (World.block_lt_of_cell? w _ hw227_0)).trans hw227_0), ((HB.out.cell (World.block_lt_of_cell? w _ hw227_1)).trans hw227_1), ((HB.out.cell (World.block_lt_of_cell? w _ hw227_2)).trans hw227_2), ((HB.out.cell (World.block_lt_of_cell? w _ hw229_0)).trans hw229_0), ((HB.out.cell (World.block_lt_of_cell? w _ hw229_1)).trans hw229_1), ((HB.out.cell (World.block_lt_of_cell? w _ hw229_2)).trans hw229_2), ((HB.out.cell (World.block_lt_of_cell? w _ hw230_0)).trans hw230_0), ((HB.out.cell (World.block_lt_of_cell? w _ hw230_1)).trans hw230_1), ((HB.out.cell (World.block_lt_of_cell? w _ hw230_2)).trans hw230_2), ((HB.out.cell (World.block_lt_of_cell? w _ hw232_0)).trans hw232_0), ((HB.out.cell (World.block_lt_of_cell? w _ hw232_1)).trans hw232_1), ((HB.out.cell (World.block_lt_of_cell? w _ hw232_2)).trans hw232_2), ((HB.out.cell (World.block_lt_of_cell? w _ hw233_0)).trans hw233_0), ((HB.out.cell (World.block_lt_of_cell? w _ hw233_1)).trans hw233_1), ((HB.out.cell (World.block_lt_of_cell? w _ hw233_2)).trans hw233_2), ((HB.out.cell (World.block_lt_of_cell? w _ hw235_0)).trans hw235_0), ((HB.out.cell (World.block_lt_of_cell? w _ hw235_1)).trans hw235_1), ((HB.out.cell (World.block_lt_of_cell? w _ hw235_2)).trans hw235_2), ((HB.out.cell (World.block_lt_of_cell? w _ hw236_0)).trans hw236_0), ((HB.out.cell (World.block_lt_of_cell? w _ hw236_1)).trans hw236_1), ((HB.out.cell (World.block_lt_of_cell? w _ hw236_2)).trans hw236_2)⟩ (fun hHeld => ?_)
     clear hK K
     refine nz (some 35) ?_
     refine pz 11 (some 36) (bm 54 4095) HT_ ?_
     refine pz 12 (some 37) (bm 54 8191) HT_ ?_
     refine pz 13 (some 38) (bm 54 16383) HT_ ?_
     refine pz 14 (some 39) (bm 54 32767) HT_ ?_
     refine pz 15 (some 40) (bm 54 65535) HT_ ?_
     refine pz 16 (some 41) (bm 54 131071) HT_ ?_
     refine pz 18 (some 43) (bm 54 393215) HT_ ?_
     refine pz 19 (some 44) (bm 54 917503) HT_ ?_
     refine pz 20 (some 45) (bm 54 1966079) HT_ ?_
     refine pz 21 (some 46) (bm 54 4063231) HT_ ?_
     refine tz 17 (some 42) (bm 54 4194303) HT_ HW_ hHeld ?_
     refine tz 22 (some 47) (bm 54 8388607) HT_ HW_ hHeld ?_
     refine one_ (i := 23) (N := some 48) (bm 54 16777215) rfl rfl (one_of HT_.out (by kernel_rfl)) (by decide) (fun K hK => ?_)
     refine goes_ Tryz.func59 (by kernel_rfl) rfl #[.string ((rd_T29 l0 x3_1).f1), .string ((rd_T29 l0 x4_2).f1)] (by rfl) rfl rfl (zq7) ?_
     with_reducible refine (dialtoneref12_apart.calls ((rd_T29 l0 x3_1).f1) ((rd_T29 l0 x4_2).f1) true _ A15.out).mono ?_
     rintro e w' ⟨rfl, ⟨nd, rfl⟩⟩
     refine ⟨_, rfl, ?_⟩
     refine hK.out _ _ ⟨((HB.out.cell (World.block_lt_of_cell? w _ hw226_0)).trans hw226_0), ((HB.out.cell (World.block_lt_of_cell? w _ hw226_1)).trans hw226_1), ((HB.out.cell (World.block_lt_of_cell? w _ hw226_2)).trans hw226_2), ((HB.out.cell (World.block_lt_of_cell? w _ hw227_0)).trans hw227_0), ((HB.out.cell (World.block_lt_of_cell? w _ hw227_1)).trans hw227_1), ((HB.out.cell (World.block_lt_of_cell? w _ hw227_2)).trans hw227_2), ((HB.out.cell (World.block_lt_of_cell? w _ hw229_0)).trans hw229_0), ((HB.out.cell (World.block_lt_of_cell? w _ hw229_1)).trans hw229_1), ((HB.out.cell (World.block_lt_of_cell? w _ hw229_2)).trans hw229_2), ((HB.out.cell (World.block_lt_of_cell? w _ hw230_0)).trans hw230_0), ((HB.out.cell (World.block_lt_of_cell? w _ hw230_1)).trans hw230_1), ((HB.out.cell (World.block_lt_of_cell? w _ hw230_2)).trans hw230_2), ((HB.out.cell (World.block_lt_of_cell? w _ hw232_0)).trans hw232_0), ((HB.out.cell (World.block_lt_of_cell? w _ hw232_1)).trans hw232_1), ((HB.out.cell (World.block_lt_of_cell? w _ hw232_2)).trans hw232_2), ((HB.out.cell (World.block_lt_of_cell? w _ hw233_0)).trans hw233_0), ((HB.out.cell (World.block_lt_of_cell? w _ hw233_1)).trans hw233_1), ((HB.out.cell (World.block_lt_of_cell? w _ hw233_2)).trans hw233_2), ((HB.out.cell (World.block_lt_of_cell? w _ hw235_0)).trans hw235_0), ((HB.out.cell (World.block_lt_of_cell? w _ hw235_1)).trans hw235_1), ((HB.out.cell (World.block_lt_of_cell? w _ hw235_2)).trans hw235_2), ((HB.out.cell (World.block_lt_of_cell? w _ hw236_0)).trans hw236_0), ((HB.out.cell (World.block_lt_of_cell? w _ hw236_1)).trans hw236_1), ((HB.out.cell (World.block_lt_of_cell? w _ hw236_2)).trans hw236_2)⟩ (fun hHeld => ?_)
     clear hK K
     refine nz (some 48) ?_
     refine pz 24 (some 49) (bm 54 33554431) HT_ ?_
     refine pz 25 (some 50) (bm 54 67108863) HT_ ?_
     refine pz 26 (some 51) (bm 54 134217727) HT_ ?_
     refine pz 27 (some 52) (bm 54 268435455) HT_ ?_
     refine pz 28 (some 53) (bm 54 536870911) HT_ ?_
     refine pz 29 (some 54) (bm 54 1073741823) HT_ ?_
     refine pz 30 (some 55) (bm 54 2147483647) HT_ ?_
     refine pz 32 (some 57) (bm 54 6442450943) HT_ ?_
     refine pz 33 (some 58) (bm 54 15032385535) HT_ ?_
     refine pz 34 (some 59) (bm 54 32212254719) HT_ ?_
     refine pz 35 (some 60) (bm 54 66571993087) HT_ ?_
     refine tz 31 (some 56) (bm 54 68719476735) HT_ HW_ hHeld ?_
     refine tz 36 (some 61) (bm 54 137438953471) HT_ HW_ hHeld ?_
     refine one_ (i := 37) (N := some 62) (bm 54 274877906943) rfl rfl (one_of HT_.out (by kernel_rfl)) (by decide) (fun K hK => ?_)
     refine goes_ Tryz.func59 (by kernel_rfl) rfl #[.string ((rd_T29 l0 x3_1).f0), .string ((rd_T29 l0 x4_2).f1)] (by rfl) rfl rfl (zq7) ?_
     with_reducible refine (dialtoneref12_apart.calls ((rd_T29 l0 x3_1).f0) ((rd_T29 l0 x4_2).f1) true _ A17.out).mono ?_
     rintro e w' ⟨rfl, ⟨nd, rfl⟩⟩
     refine ⟨_, rfl, ?_⟩
     refine hK.out _ _ ⟨((HB.out.cell (World.block_lt_of_cell? w _ hw226_0)).trans hw226_0), ((HB.out.cell (World.block_lt_of_cell? w _ hw226_1)).trans hw226_1), ((HB.out.cell (World.block_lt_of_cell? w _ hw226_2)).trans hw226_2), ((HB.out.cell (World.block_lt_of_cell? w _ hw227_0)).trans hw227_0), ((HB.out.cell (World.block_lt_of_cell? w _ hw227_1)).trans hw227_1), ((HB.out.cell (World.block_lt_of_cell? w _ hw227_2)).trans hw227_2), ((HB.out.cell (World.block_lt_of_cell? w _ hw229_0)).trans hw229_0), ((HB.out.cell (World.block_lt_of_cell? w _ hw229_1)).trans hw229_1), ((HB.out.cell (World.block_lt_of_cell? w _ hw229_2)).trans hw229_2), ((HB.out.cell (World.block_lt_of_cell? w _ hw230_0)).trans hw230_0), ((HB.out.cell (World.block_lt_of_cell? w _ hw230_1)).trans hw230_1), ((HB.out.cell (World.block_lt_of_cell? w _ hw230_2)).trans hw230_2), ((HB.out.cell (World.block_lt_of_cell? w _ hw232_0)).trans hw232_0), ((HB.out.cell (World.block_lt_of_cell? w _ hw232_1)).trans hw232_1), ((HB.out.cell (World.block_lt_of_cell? w _ hw232_2)).trans hw232_2), ((HB.out.cell (World.block_lt_of_cell? w _ hw233_0)).trans hw233_0), ((HB.out.cell (World.block_lt_of_cell? w _ hw233_1)).trans hw233_1), ((HB.out.cell (World.block_lt_of_cell? w _ hw233_2)).trans hw233_2), ((HB.out.cell (World.block_lt_of_cell? w _ hw235_0)).trans hw235_0), ((HB.out.cell (World.block_lt_of_cell? w _ hw235_1)).trans hw235_1), ((HB.out.cell (World.block_lt_of_cell? w _ hw235_2)).trans hw235_2), ((HB.out.cell (World.block_lt_of_cell? w _ hw236_0)).trans hw236_0), ((HB.out.cell (World.block_lt_of_cell? w _ hw236_1)).trans hw236_1), ((HB.out.cell (World.block_lt_of_cell? w _ hw236_2)).trans hw236_2)⟩ (fun hHeld => ?_)
     clear hK K
     refine nz (some 62) ?_
     refine pz 38 (some 63) (bm 54 549755813887) HT_ ?_
     refine pz 39 (some 64) (bm 54 1099511627775) HT_ ?_
     refine pz 40 (some 65) (bm 54 2199023255551) HT_ ?_
     refine pz 41 (some 66) (bm 54 4398046511103) HT_ ?_
     refine pz 42 (some 67) (bm 54 8796093022207) HT_ ?_
     refine pz 43 (some 68) (bm 54 17592186044415) HT_ ?_
     refine pz 44 (some 69) (bm 54 35184372088831) HT_ ?_
     refine pz 46 (some 71) (bm 54 105553116266495) HT_ ?_
     refine pz 47 (some 72) (bm 54 246290604621823) HT_ ?_
     refine pz 48 (some 73) (bm 54 527765581332479) HT_ ?_
     refine pz 49 (some 74) (bm 54 1090715534753791) HT_ ?_
     refine tz 45 (some 70) (bm 54 1125899906842623) HT_ HW_ hHeld ?_
     refine tz 50 (some 75) (bm 54 2251799813685247) HT_ HW_ hHeld ?_
     refine one_ (i := 51) (N := some 76) (bm 54 4503599627370495) rfl rfl (one_of HT_.out (by kernel_rfl)) (by decide) (fun K hK => ?_)
     refine goes_ Tryz.func59 (by kernel_rfl) rfl #[.string ((rd_T29 l0 x3_1).f1), .string ((rd_T29 l0 x4_2).f0)] (by rfl) rfl rfl (zq7) ?_
     with_reducible refine (dialtoneref12_apart.calls ((rd_T29 l0 x3_1).f1) ((rd_T29 l0 x4_2).f0) true _ A19.out).mono ?_
     rintro e w' ⟨rfl, ⟨nd, rfl⟩⟩
     refine ⟨_, rfl, ?_⟩
     refine hK.out _ _ ⟨((HB.out.cell (World.block_lt_of_cell? w _ hw226_0)).trans hw226_0), ((HB.out.cell (World.block_lt_of_cell? w _ hw226_1)).trans hw226_1), ((HB.out.cell (World.block_lt_of_cell? w _ hw226_2)).trans hw226_2), ((HB.out.cell (World.block_lt_of_cell? w _ hw227_0)).trans hw227_0), ((HB.out.cell (World.block_lt_of_cell? w _ hw227_1)).trans hw227_1), ((HB.out.cell (World.block_lt_of_cell? w _ hw227_2)).trans hw227_2), ((HB.out.cell (World.block_lt_of_cell? w _ hw229_0)).trans hw229_0), ((HB.out.cell (World.block_lt_of_cell? w _ hw229_1)).trans hw229_1), ((HB.out.cell (World.block_lt_of_cell? w _ hw229_2)).trans hw229_2), ((HB.out.cell (World.block_lt_of_cell? w _ hw230_0)).trans hw230_0), ((HB.out.cell (World.block_lt_of_cell? w _ hw230_1)).trans hw230_1), ((HB.out.cell (World.block_lt_of_cell? w _ hw230_2)).trans hw230_2), ((HB.out.cell (World.block_lt_of_cell? w _ hw232_0)).trans hw232_0), ((HB.out.cell (World.block_lt_of_cell? w _ hw232_1)).trans hw232_1), ((HB.out.cell (World.block_lt_of_cell? w _ hw232_2)).trans hw232_2), ((HB.out.cell (World.block_lt_of_cell? w _ hw233_0)).trans hw233_0), ((HB.out.cell (World.block_lt_of_cell? w _ hw233_1)).trans hw233_1), ((HB.out.cell (World.block_lt_of_cell? w _ hw233_2)).trans hw233_2), ((HB.out.cell (World.block_lt_of_cell? w _ hw235_0)).trans hw235_0), ((HB.out.cell (World.block_lt_of_cell? w _ hw235_1)).trans hw235_1), ((HB.out.cell (World.block_lt_of_cell? w _ hw235_2)).trans hw235_2), ((HB.out.cell (World.block_lt_of_cell? w _ hw236_0)).trans hw236_0), ((HB.out.cell (World.block_lt_of_cell? w _ hw236_1)).trans hw236_1), ((HB.out.cell (World.block_lt_of_cell? w _ hw236_2)).trans hw236_2)⟩ (fun hHeld => ?_)
     clear hK K
     refine nz (some 76) ?_
     refine pz 52 (some 77) (bm 54 9007199254740991) HT_ ?_
     refine pz 53 (some 78) (bm 54 18014398509481983) HT_ ?_
     refine done_ (done_of HT_.out (by kernel_rfl)) ?_
     try go_wp2
     go_roundg k2
     case measure => have := HK1.out; have := HK2.out; omega
     case rel => exact ⟨(wrap64 (x4_2 + 1)), (zq1), H', ⟨zq27⟩, ⟨zq5⟩⟩
end Go.Proofs.YtlmfoblgheepoaaGreatDoor.Pl
end
section
open Go.Proofs.YtlmfoblgheepoaaGreatDoor.Z
namespace Go.Proofs.YtlmfoblgheepoaaGreatDoor.Pl
open Go.RowKit Go.Proofs.YtlmfoblgheepoaaGreatDoorW.PrintWords Go.Proofs.YtlmfoblgheepoaaGreatDoorW.PrintLast Go.Proofs.YtlmfoblgheepoaaGreatDoorW.PrintMore
attribute [local go_sem] max2_int min2_int max_two min_two max_three min_three max_four min_four
set_option linter.unusedVariables false
set_option linter.unusedSimpArgs false
def dialtoneref12_pick.f (a0 : Int) (a1 : Int) : Option (Int) := if a0 < 0 then (if a1 = 0 then (none) else (some (Int.tmod (wrap64 (-(wrap64 (a0 + 1)))) a1))) else (if a1 = 0 then (none) else (some (Int.tmod a0 a1)))
set_option maxHeartbeats 8000000 in
set_option maxRecDepth 100000 in
theorem dialtoneref12_pick.calls (a0 : Int) (a1 : Int) (r : Int) (w : World) (h : dialtoneref12_pick.f a0 a1 = some r) :
 Calls Tryz.prog 33 #[.int .i64 a0, .int .i64 a1] w fun e w' => e = .returned (.int .i64 r) ∧ Drawn0 w w' := by
 have H : (if a0 < 0 then (if a1 = 0 then (none) else (some (Int.tmod (wrap64 (-(wrap64 (a0 + 1)))) a1))) else (if a1 = 0 then (none) else (some (Int.tmod a0 a1)))) = some r := h
 clear h
 by_cases c3 : a0 < 0
 ·rw [if_pos c3] at H
  have c3b0 : decide (a0 < 0) = true := decide_eq_true c3
  clear c3
  by_cases c4 : a1 = 0
  ·rw [if_pos c4] at H
   exact absurd H (by simp)
  rw [if_neg c4] at H
  have c4b0 : (a1 == 0) = false := beq_eq_false_iff_ne.mpr c4
  have c4b1 : (a1 != 0) = true := bne_iff_ne.mpr c4
  obtain rfl := Option.some.inj H
  go_enter Tryz.func33, Tryz.ntmps33
  go_wp2
  go_ret
  exact ⟨zq1, zq2⟩
 rw [if_neg c3] at H
 have c3b0 : decide (a0 < 0) = false := decide_eq_false c3
 clear c3
 by_cases c5 : a1 = 0
 ·rw [if_pos c5] at H
  exact absurd H (by simp)
 rw [if_neg c5] at H
 have c5b0 : (a1 == 0) = false := beq_eq_false_iff_ne.mpr c5
 have c5b1 : (a1 != 0) = true := bne_iff_ne.mpr c5
 obtain rfl := Option.some.inj H
 go_enter Tryz.func33, Tryz.ntmps33
 go_wp2
 go_ret
 exact ⟨zq1, zq2⟩
def dialtoneref12_prefix.l0 : Nat → Int → Int → ByteArray → Int → Option (ByteArray)
 | 0, _, _, _, _ => none
 | k + 1, x0, x1, x5, x6 => if x6 < x1 then ((some (([(wrap64 (48 + (Int.tmod x0 10))) % 256] : List Int) : List Int)).bind fun y238 => (if x5.size + (strOfNums y238).size ≤ 9223372036854775807 then (dialtoneref12_prefix.l0 k (wrap64 (Int.tdiv x0 10)) x1 (x5 ++ (strOfNums y238)) (wrap64 (x6 + 1))) else (none))) else (some x5)
def dialtoneref12_prefix.f (k : Nat) (a0 : Int) (a1 : Int) : Option (ByteArray) := dialtoneref12_prefix.l0 k a0 a1 (⟨#[]⟩ : ByteArray) 0
set_option maxHeartbeats 8000000 in
set_option maxRecDepth 100000 in
theorem dialtoneref12_prefix.calls (k : Nat) (a0 : Int) (a1 : Int) (r : ByteArray) (w : World) (h : dialtoneref12_prefix.f k a0 a1 = some r) :
 Calls Tryz.prog 34 #[.int .i64 a0, .int .i64 a1] w fun e w' => e = .returned (.string r) ∧ Below w.heap.size w w' := by
 have HB := Aside0.mk (Below.refl w.heap.size w)
 have H : (dialtoneref12_prefix.l0 k a0 a1 (⟨#[]⟩ : ByteArray) 0) = some r := h
 clear h
 have H' := Aside0.mk H
 clear H
 go_enter Tryz.func34, Tryz.ntmps34
 go_wp2
 go_loopg [0, 5, 6] k (fun kq v0 v5 v6 w' => ∃ (x0_1 : Int) (x5_1 : ByteArray) (x6_1 : Int), v0 = .int .i64 x0_1 ∧ v5 = .string x5_1 ∧ v6 = .int .i64 x6_1 ∧ Aside0 (dialtoneref12_prefix.l0 kq x0_1 a1 x5_1 x6_1 = some r) ∧ Aside0 (kq ≤ k) ∧ Aside0 (Below w.heap.size w w'))
 case atStart => exact ⟨(a0), ((⟨#[]⟩ : ByteArray)), (0), (zq1), (zq1), (zq1), H', ⟨Nat.le_refl _⟩, ⟨zq5⟩⟩
 case round =>
  clear H'
  try clear p2
  obtain ⟨x0_1, x5_1, x6_1, rfl, rfl, rfl, HA, HK1, HB⟩ := hrel
  cases gk with
  | zero => exact absurd HA.out (by simp [dialtoneref12_prefix.l0])
  | succ k1 =>
   have H := HA.out
   clear HA
   simp only [dialtoneref12_prefix.l0] at H
   by_cases c3 : x6_1 < a1
   rotate_left
   ·rw [if_neg c3] at H
    have c3b0 : decide (x6_1 < a1) = false := decide_eq_false c3
    clear c3
    obtain rfl := Option.some.inj H
    go_wp2
    go_ret
    exact ⟨zq6, zq5⟩
   rw [if_pos c3] at H
   have c3b0 : decide (x6_1 < a1) = true := decide_eq_true c3
   clear c3
   obtain ⟨y238, hy238⟩ : ∃ y_ : List Int, y_ = (([(wrap64 (48 + (Int.tmod x0_1 10))) % 256] : List Int)) := ⟨_, rfl⟩
   replace H : (if x5_1.size + (strOfNums y238).size ≤ 9223372036854775807 then (dialtoneref12_prefix.l0 k1 (wrap64 (Int.tdiv x0_1 10)) a1 (x5_1 ++ (strOfNums y238)) (wrap64 (x6_1 + 1))) else (none)) = some r := by first | (rw [hy238]; with_reducible exact H) | (have H2_ := (Option.bind_some _ _).symm.trans H; rw [hy238]; with_reducible exact H2_) | (have H2_ := (Option.bind_some _ _).symm.trans H; with_reducible exact H2_) | with_reducible exact H | (rw [hy238]; exact H) | exact H
   have Ny238 := Aside0.mk hy238
   clear hy238
   by_cases c4 : x5_1.size + (strOfNums y238).size ≤ 9223372036854775807
   rotate_left
   ·rw [if_neg c4] at H
    exact absurd H (by simp)
   rw [if_pos c4] at H
   have c4b0 := eq_true c4
   have c4b1 : decide (x5_1.size + (strOfNums y238).size ≤ 9223372036854775807) = true := decide_eq_true c4
   try have c4b2 : (9223372036854775807 < x5_1.size + (strOfNums y238).size) = False := eq_false (Nat.not_lt.2 c4)
   have H' := Aside0.mk H
   clear H
   go_wp2_with (first | ((with_reducible refine gate_dst (N := 17) rfl ?_); refine Kd.R_lit (Kd.int .u8) _ 5 ?hg (N := 17) ?hd (xs := ([(wrap64 (48 + (Int.tmod x0_1 10))) % 256] : List Int)) (inner := [.int .u8 ((wrap64 (48 + (Int.tmod x0_1 10))) % 256)]) (ok := fun _ => True) (okp := fun _ => True) ?hr ?hp (fun _ hk => hk) trivial (Below.refl _ _) (Nat.le_refl _) (by simp) ?_; (case hd => rfl); (case hg => rfl); (case hr => exact zq3); (case hp => exact zq81); intro v239 w5 ho6 hb hg_ hnew_; clear hg_ hnew_; (first | rw [← Ny238.out] at ho6 | (simp only [Int.reduceToNat] at ho6; rw [← Ny238.out] at ho6)); have HO240 := Aside0.mk (Kd.R_lower ho6 (below_size (zq5))); replace HB := Aside0.mk (below_step (zq5) hb); clear hb ho6; have hcv7 := own_string (P := Tryz.prog) Tryz.underlying65 Tryz.underlying5 Tryz.underlying9 (Kd.own_of_R HO240.out)))
   go_roundg k1
   case measure => have := HK1.out; omega
   case rel => exact ⟨(wrap64 (Int.tdiv x0_1 10)), (x5_1 ++ (strOfNums y238)), (wrap64 (x6_1 + 1)), (zq1), (zq1), (zq1), H', ⟨zq32⟩, ⟨zq5⟩⟩
end Go.Proofs.YtlmfoblgheepoaaGreatDoor.Pl
end
