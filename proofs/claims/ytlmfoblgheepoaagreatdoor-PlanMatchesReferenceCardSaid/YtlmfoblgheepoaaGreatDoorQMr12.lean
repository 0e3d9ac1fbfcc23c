/- Mr: part 13 of the proof that the law's row holds: the printed walk of the program's functions, the plain law, the row. -/
import Derived.Test.YtlmfoblgheepoaaGreatDoorQMr11
section
namespace Go.Proofs.YtlmfoblgheepoaaGreatDoor.Pure
open Go.RowKit Go.Proofs.YtlmfoblgheepoaaGreatDoorW.PrintWords Go.Proofs.YtlmfoblgheepoaaGreatDoorW.PrintLast Go.Proofs.YtlmfoblgheepoaaGreatDoorW.PrintMore Go.Proofs.YtlmfoblgheepoaaGreatDoor.Pl
set_option linter.unusedVariables false
set_option linter.unusedSimpArgs false
def valF (a : Nat) (l : D) : Nat := l.foldl (fun a b => a * 10 + (b.toNat - 48)) a
theorem valF_nil (a : Nat) : valF a [] = a := rfl
theorem valF_cons (a : Nat) (b : UInt8) (r : D) : valF a (b :: r) = valF (a * 10 + (b.toNat - 48)) r := by unfold valF; rw [List.foldl_cons]
def val (l : D) : Nat := valF 0 l
def dg (n : Nat) : UInt8 := UInt8.ofNat (48 + n % 10)
def eightK : Nat → Nat → D
  | 0, _ => []
  | k + 1, m => eightK k (m / 10) ++ [dg m]
theorem dg_toNat (n : Nat) : (dg n).toNat = 48 + n % 10 := by unfold dg; simp; omega
theorem dg_isD (n : Nat) : isD (dg n) = true := by unfold isD; rw [dg_toNat]; simp; omega
theorem isD_iff (b : UInt8) : isD b = true ↔ 48 ≤ b.toNat ∧ b.toNat ≤ 57 := by unfold isD; simp
theorem valF_acc : ∀ (l : D) (a : Nat), valF a l = a * 10 ^ l.length + val l
  | [], a => by simp [valF_nil, val]
  | b :: r, a => by
    rw [valF_cons, valF_acc r, show val (b :: r) = valF (0 * 10 + (b.toNat - 48)) r from valF_cons 0 b r, valF_acc r (0 * 10 + (b.toNat - 48)), List.length_cons, Nat.pow_succ, Nat.zero_mul, Nat.zero_add, Nat.add_mul]
    rw [Nat.mul_assoc, Nat.mul_comm 10 (10 ^ r.length)]
    omega
theorem valF_append : ∀ (a b : D) (n : Nat), valF n (a ++ b) = valF (valF n a) b
  | [], b, n => rfl
  | x :: a, b, n => by rw [List.cons_append, valF_cons, valF_cons, valF_append a b]
theorem val_append (a b : D) : val (a ++ b) = val a * 10 ^ b.length + val b := by
  unfold val
  rw [valF_append, valF_acc b]
  rfl
theorem val_nil : val [] = 0 := rfl
theorem val_one (b : UInt8) : val [b] = b.toNat - 48 := by show 0 * 10 + (b.toNat - 48) = _; omega
theorem val_lt : ∀ (l : D), digs l = true → val l < 10 ^ l.length
  | [], _ => by simp [val, valF_nil]
  | b :: r, h => by
    have hb : isD b = true ∧ digs r = true := by simpa [digs] using h
    have h1 := val_lt r hb.2
    have h2 := (isD_iff b).mp hb.1
    rw [val, valF_cons, valF_acc, List.length_cons, Nat.pow_succ]
    have : (0 * 10 + (b.toNat - 48)) * 10 ^ r.length ≤ 9 * 10 ^ r.length := Nat.mul_le_mul_right _ (by omega)
    omega
theorem eightK_length : ∀ k m, (eightK k m).length = k
  | 0, _ => rfl
  | k + 1, m => by rw [eightK, List.length_append, eightK_length k]; rfl
theorem eightK_digs : ∀ k m, digs (eightK k m) = true
  | 0, _ => rfl
  | k + 1, m => by rw [eightK, digs_append, eightK_digs k]; simp [digs, dg_isD]
theorem val_eightK : ∀ k m, val (eightK k m) = m % 10 ^ k
  | 0, m => by simp [eightK, val, valF_nil, Nat.mod_one]
  | k + 1, m => by
    rw [eightK, val_append, val_eightK k, val_one, dg_toNat, Nat.pow_succ, Nat.mul_comm (10 ^ k) 10, Nat.mod_mul]
    simp
    omega
theorem eightK_zero : ∀ k, eightK k 0 = List.replicate k 48
  | 0 => rfl
  | k + 1 => by
    rw [eightK, Nat.zero_div, eightK_zero k, List.replicate_succ']
    rfl
theorem dec_length_pos (u : Nat) : 1 ≤ (Lib.decDigits u).length := by
  rw [Lib.decDigits]; split <;> simp
theorem dec_eight : ∀ (k u : Nat), 1 ≤ k → u < 10 ^ k → (Lib.decDigits u).length ≤ k ∧ List.replicate (k - (Lib.decDigits u).length) (48 : UInt8) ++ Lib.decDigits u = eightK k u
  | 0, u, h, _ => by omega
  | k + 1, u, _, hu => by
    rw [Lib.decDigits, eightK]
    split
    · rename_i h
      have e0 : u / 10 = 0 := by omega
      have e1 : UInt8.ofNat (48 + u) = dg u := by unfold dg; congr 2; omega
      rw [e0, eightK_zero, e1]
      exact ⟨by simp, by simp⟩
    · rename_i h
      have hk : 1 ≤ k := by
        rcases Nat.eq_zero_or_pos k with h0 | h0
        · subst h0; simp at hu; omega
        · exact h0
      have ih := dec_eight k (u / 10) hk (by rw [Nat.pow_succ] at hu; omega)
      refine ⟨by simp; exact ih.1, ?_⟩
      rw [← ih.2]
      have : k + 1 - (Lib.decDigits (u / 10) ++ [UInt8.ofNat (48 + u % 10)]).length = k - (Lib.decDigits (u / 10)).length := by simp
      rw [this, List.append_assoc]
      rfl
theorem digitVal_of {b : UInt8} (h : isD b = true) : Lib.digitVal b = some (b.toNat - 48) := by
  have := (isD_iff b).mp h
  unfold Lib.digitVal
  rw [if_pos this]
theorem decFrom_val : ∀ (l : D) (a : Nat), digs l = true → Lib.decFrom a l = some (valF a l)
  | [], a, _ => rfl
  | b :: r, a, h => by
    have hb : isD b = true ∧ digs r = true := by simpa [digs] using h
    rw [Lib.decFrom, digitVal_of hb.1, valF_cons]
    exact decFrom_val r _ hb.2
theorem atoi_val (l : D) (h : digs l = true) (h0 : l ≠ []) : Lib.atoi l = some (val l : Int) := by
  cases l with
  | nil => exact absurd rfl h0
  | cons b r =>
    have hb : isD b = true ∧ digs r = true := by simpa [digs] using h
    have hb' := (isD_iff b).mp hb.1
    have n1 : (b == 45) = false := by
      rw [beq_eq_false_iff_ne]; intro e; subst e; simp at hb'
    have n2 : (b == 43) = false := by
      rw [beq_eq_false_iff_ne]; intro e; subst e; simp at hb'
    rw [Lib.atoi, n1, n2]
    simp only [Bool.false_eq_true, if_false]
    rw [Lib.decNat]
    simp only [List.isEmpty_cons, Bool.false_eq_true, if_false]
    rw [decFrom_val _ _ h]
    rfl
theorem atoi_eq (s : ByteArray) (h : s.size ≤ 18) (hd : digs s.data.toList = true) (h0 : 1 ≤ s.size) : strconv_Atoi.f s = some ((val s.data.toList : Int), none) := by
  unfold strconv_Atoi.f
  rw [if_pos h, atoi_val _ hd]
  · rfl
  · intro e; rw [Lib.size_eq, e] at h0; simp at h0
theorem eight_eq (m : Nat) (h : m ≤ 99999999) : plan_eight.f (m : Int) = some ⟨(eightK 8 m).toArray⟩ := by
  have hd := dec_eight 8 m (by omega) (by omega)
  have hi : Lib.itoa (m : Int) = Lib.decDigits m := by unfold Lib.itoa; rw [if_neg (by omega)]; rfl
  unfold plan_eight.f strconv_Itoa.f
  rw [if_pos ⟨by omega, by omega⟩, hi]
  simp only [Option.bind_some]
  have hz : (⟨(Lib.decDigits m).toArray⟩ : ByteArray).size = (Lib.decDigits m).length := by rw [Lib.size_eq]
  have hlp := dec_length_pos m
  unfold strings_Repeat.f
  rw [hz, w64 (by omega) (by omega)]
  have h1 : (8 - ((Lib.decDigits m).length : Int)).toNat = 8 - (Lib.decDigits m).length := by omega
  have hone : (⟨#[48]⟩ : ByteArray).size = 1 := rfl
  rw [if_pos ⟨by omega, by omega, by rw [h1, hone]; omega⟩]
  simp only [Option.bind_some]
  have hr : Lib.repeatL (⟨#[48]⟩ : ByteArray).data.toList (8 - ((Lib.decDigits m).length : Int)).toNat = List.replicate (8 - (Lib.decDigits m).length) 48 := by
    rw [h1]
    have := Lib.repeatL_replicate (48 : UInt8) 1 (8 - (Lib.decDigits m).length)
    simpa using this
  rw [hr]
  have hs : (⟨(List.replicate (8 - (Lib.decDigits m).length) (48 : UInt8)).toArray⟩ : ByteArray).size = 8 - (Lib.decDigits m).length := by rw [Lib.size_eq]; simp
  rw [if_pos (by rw [hs]; omega)]
  congr 1
  have : ∀ a b : ByteArray, a.data.toList = b.data.toList → a = b := by
    intro a b e; cases a; cases b; simp at e; simp [e]
  apply this
  simp
  exact hd.2
theorem pow10_small {n : Nat} (h : n ≤ 8) : 10 ^ n ≤ 100000000 := Nat.pow_le_pow_right (n := 10) (by decide) h
theorem power_from (n : Nat) (hn : n ≤ 8) : ∀ m i : Nat, m + i = n → Ev (fun k => plan_power.l0 k ((10 ^ i : Nat) : Int) (n : Int) (i : Int)) ((10 ^ n : Nat) : Int)
  | 0, i, h => by
    refine Ev.step (fun k => by rw [plan_power.l0]) ?_
    have h1 : ¬ ((i : Int) < n) := by omega
    simp only [h1, if_false]
    have : i = n := by omega
    rw [this]
    exact Ev.now _
  | m + 1, i, h => by
    refine Ev.step (fun k => by rw [plan_power.l0]) ?_
    have h1 : ((i : Int) < n) := by omega
    simp only [h1, if_true, wi i (by omega)]
    have hp := pow10_small (n := i) (by omega)
    have : wrap64 (((10 ^ i : Nat) : Int) * 10) = ((10 ^ (i + 1) : Nat) : Int) := by
      have : (0 : Int) ≤ ((10 ^ i : Nat) : Int) := Int.natCast_nonneg _
      rw [Nat.pow_succ]
      generalize 10 ^ i = q at *
      rw [w64 (by omega) (by omega)]; omega
    rw [this]
    exact power_from n hn m (i + 1) (by omega)
theorem power_ev (n : Nat) (hn : n ≤ 8) : Ev (fun k => plan_power.f k (n : Int)) ((10 ^ n : Nat) : Int) := by
  have := power_from n hn n 0 (by omega)
  simpa [plan_power.f] using this
theorem value_from (s : ByteArray) (hs : s.size ≤ 16) (hd : digs s.data.toList = true) : ∀ m i : Nat, m + i = s.size → Ev (fun k => dialtoneref12_value.l0 k s ((val (s.data.toList.take i) : Nat) : Int) (i : Int)) ((val s.data.toList : Nat) : Int)
  | 0, i, h => by
    refine Ev.step (fun k => by rw [dialtoneref12_value.l0]) ?_
    have h1 : ¬ ((i : Int) < s.size) := by omega
    simp only [h1, if_false]
    rw [List.take_of_length_le (by rw [← Lib.size_eq]; omega)]
    exact Ev.now _
  | m + 1, i, h => by
    refine Ev.step (fun k => by rw [dialtoneref12_value.l0]) ?_
    have h1 : ((i : Int) < s.size) := by omega
    have h2 : (0 : Int) ≤ i := by omega
    have hl : i < s.data.toList.length := by rw [← Lib.size_eq]; omega
    have ha : ∀ b ∈ s.data.toList, isD b = true := by intro b hb; exact List.all_eq_true.mp hd b hb
    have hb := (isD_iff _).mp (ha _ (List.getElem_mem hl))
    have hv : val (s.data.toList.take i) < 10 ^ 16 := by
      have h3 : digs (s.data.toList.take i) = true := List.all_eq_true.mpr (fun b hb => ha b (List.mem_of_mem_take hb))
      have h4 := val_lt _ h3
      have h5 : (s.data.toList.take i).length ≤ 16 := by rw [List.length_take, ← Lib.size_eq]; omega
      have := Nat.pow_le_pow_right (n := 10) (by decide) h5
      omega
    simp only [h1, h2, if_true, wi i (by omega), bt_get s i hl]
    have e : wrap64 (wrap64 (10 * ((val (s.data.toList.take i) : Nat) : Int)) + ((s.data.toList[i].toNat : Int) - 48) % 256) = ((val (s.data.toList.take (i + 1)) : Nat) : Int) := by
      rw [← take_at _ i hl, val_append, val_one]
      rw [w64 (n := 10 * _) (by omega) (by omega), w64 (by omega) (by omega)]
      simp only [List.length_cons, List.length_nil]
      omega
    rw [e]
    exact value_from s hs hd m (i + 1) (by omega)
theorem value_ev (s : ByteArray) (hs : s.size ≤ 16) (hd : digs s.data.toList = true) : Ev (fun k => dialtoneref12_value.f k s) ((val s.data.toList : Nat) : Int) := by
  have := value_from s hs hd s.size 0 (by omega)
  simpa [dialtoneref12_value.f, val_nil] using this
theorem ba_ext {a b : ByteArray} (h : a.data.toList = b.data.toList) : a = b := by
  cases a; cases b; simp at h; simp [h]
theorem one_dig (m : Nat) : strOfNums [wrap64 (48 + Int.tmod (m : Int) 10) % 256] = ⟨#[dg m]⟩ := by
  apply ba_ext
  rw [strOfNums_data, Int.tmod_eq_emod_of_nonneg (by omega)]
  have : wrap64 (48 + (m : Int) % 10) % 256 = ((48 + m % 10 : Nat) : Int) := by rw [w64 (by omega) (by omega)]; omega
  rw [this]
  rfl
theorem eightK_split : ∀ (j k m : Nat), eightK (k + j) m = eightK k (m / 10 ^ j) ++ eightK j m
  | 0, k, m => by simp [eightK]
  | j + 1, k, m => by
    rw [← Nat.add_assoc, eightK, eightK_split j k (m / 10), eightK, List.append_assoc, Nat.div_div_eq_div_mul, Nat.pow_succ, Nat.mul_comm 10]
theorem reight_from (m : Nat) (hm : m ≤ 99999999) : ∀ r i : Nat, r + i = 8 → Ev (fun k => dialtoneref12_Eight.l0 k ((m / 10 ^ i : Nat) : Int) ⟨(eightK i m).toArray⟩ (i : Int)) ⟨(eightK 8 m).toArray⟩
  | 0, i, h => by
    refine Ev.step (fun k => by rw [dialtoneref12_Eight.l0]) ?_
    have h1 : ¬ ((i : Int) < 8) := by omega
    simp only [h1, if_false]
    have : i = 8 := by omega
    rw [this]
    exact Ev.now _
  | r + 1, i, h => by
    refine Ev.step (fun k => by rw [dialtoneref12_Eight.l0]) ?_
    have h1 : ((i : Int) < 8) := by omega
    have hq : m / 10 ^ i ≤ m := Nat.div_le_self _ _
    have hz : (⟨(eightK i m).toArray⟩ : ByteArray).size = i := by rw [Lib.size_eq]; simp [eightK_length]
    have ho : (⟨#[dg (m / 10 ^ i)]⟩ : ByteArray).size = 1 := rfl
    simp only [h1, if_true, wi i (by omega), one_dig, Option.bind_some, hz, ho]
    have h2 : 1 + i ≤ 9223372036854775807 := by omega
    simp only [h2, if_true]
    have e1 : wrap64 (Int.tdiv ((m / 10 ^ i : Nat) : Int) 10) = ((m / 10 ^ (i + 1) : Nat) : Int) := by
      rw [Nat.pow_succ, ← Nat.div_div_eq_div_mul]
      generalize m / 10 ^ i = q at *
      rw [Int.tdiv_eq_ediv_of_nonneg (by omega), w64 (by omega) (by omega)]
      omega
    have e2 : ((⟨#[dg (m / 10 ^ i)]⟩ : ByteArray) ++ ⟨(eightK i m).toArray⟩) = ⟨(eightK (i + 1) m).toArray⟩ := by
      apply ba_ext
      rw [Nat.add_comm i 1, eightK_split i 1 m]
      simp [eightK]
    rw [e1, e2]
    exact reight_from m hm r (i + 1) (by omega)
theorem reight_ev (m : Nat) (hm : m ≤ 99999999) : Ev (fun k => dialtoneref12_Eight.f k (m : Int)) ⟨(eightK 8 m).toArray⟩ := by
  have := reight_from m hm 8 0 (by omega)
  simpa [dialtoneref12_Eight.f, eightK] using this
theorem prefix_from (n : Nat) (hn : n ≤ 9) : ∀ r i c : Nat, r + i = n → c < 1000 → ∀ s : ByteArray, s.size = i → digs s.data.toList = true → ∃ t : ByteArray, t.size = n ∧ digs t.data.toList = true ∧ Ev (fun k => dialtoneref12_prefix.l0 k (c : Int) (n : Int) s (i : Int)) t
  | 0, i, c, h, hc, s, hs, hd => by
    refine ⟨s, by omega, hd, Ev.step (fun k => by rw [dialtoneref12_prefix.l0]) ?_⟩
    have h1 : ¬ ((i : Int) < n) := by omega
    simp only [h1, if_false]
    exact Ev.now _
  | r + 1, i, c, h, hc, s, hs, hd => by
    have ho : (⟨#[dg c]⟩ : ByteArray).size = 1 := rfl
    obtain ⟨t, ht, hdt, hev⟩ := prefix_from n hn r (i + 1) (c / 10) (by omega) (by omega) (s ++ ⟨#[dg c]⟩) (by rw [ByteArray.size_append, hs, ho]) (by simp [digs_append, hd]; simp [digs, dg_isD])
    refine ⟨t, ht, hdt, Ev.step (fun k => by rw [dialtoneref12_prefix.l0]) ?_⟩
    have h1 : ((i : Int) < n) := by omega
    have e1 : wrap64 (Int.tdiv (c : Int) 10) = ((c / 10 : Nat) : Int) := by
      rw [Int.tdiv_eq_ediv_of_nonneg (by omega), w64 (by omega) (by omega)]
      omega
    have h2 : s.size + 1 ≤ 9223372036854775807 := by omega
    simp only [h1, if_true, wi i (by omega), one_dig, Option.bind_some, ho, h2, e1]
    exact hev
theorem prefix_ev (c n : Nat) (hn : n ≤ 9) (hc : c < 1000) : ∃ t : ByteArray, t.size = n ∧ digs t.data.toList = true ∧ Ev (fun k => dialtoneref12_prefix.f k (c : Int) (n : Int)) t := by
  obtain ⟨t, h1, h2, h3⟩ := prefix_from n hn n 0 c (by omega) hc ⟨#[]⟩ rfl rfl
  exact ⟨t, h1, h2, by simpa [dialtoneref12_prefix.f] using h3⟩
end Go.Proofs.YtlmfoblgheepoaaGreatDoor.Pure
end
section
namespace Go.Proofs.YtlmfoblgheepoaaGreatDoor.Pure
open Go.RowKit Go.Proofs.YtlmfoblgheepoaaGreatDoorW.PrintWords Go.Proofs.YtlmfoblgheepoaaGreatDoorW.PrintLast Go.Proofs.YtlmfoblgheepoaaGreatDoorW.PrintMore Go.Proofs.YtlmfoblgheepoaaGreatDoor.Pl
set_option linter.unusedVariables false
set_option linter.unusedSimpArgs false
theorem wnat (n : Nat) (h : n ≤ 1000000000) : wrap64 (n : Int) = (n : Int) := w64 (by omega) (by omega)
structure One (c : S29) : Prop where
  od : digs (co c) = true
  nd : digs (cn c) = true
  o1 : 1 ≤ (co c).length
  o4 : (co c).length ≤ 4
  n1 : 1 ≤ (cn c).length
  n5 : (cn c).length ≤ 5
  l1 : ((co c).length : Int) < c.f2
  l7 : c.f2 ≤ 7
  rm : c.f2 - (co c).length ≤ 8 - (cn c).length
  ap : apt (co c) (cn c) = true
theorem oneC_of {c : S29} (h : oneC c = true) : One c := by
  unfold oneC at h
  simp only [Bool.and_eq_true, decide_eq_true_eq] at h
  obtain ⟨⟨a, b⟩, ⟨c1, c2, c3, c4, c5, c6, c7⟩, d⟩ := h
  exact ⟨a, b, c1, c2, c3, c4, c5, c6, c7, d⟩
theorem vp_iff (p : List S29) : vp p = true ↔ p.length ≤ 20 ∧ (∀ c ∈ p, oneC c = true) ∧ pgo [] p = true := by
  unfold vp
  rw [vgo_pgo]
  simp
theorem vp_one {p : List S29} (h : vp p = true) {c : S29} (hc : c ∈ p) : One c := oneC_of (((vp_iff p).mp h).2.1 c hc)
theorem vp_small {p : List S29} (h : vp p = true) : smallP p := by
  intro c hc
  have := vp_one h hc
  have h0 : c.f0.size = (co c).length := Lib.size_eq _
  have h1 : c.f1.size = (cn c).length := Lib.size_eq _
  have a := this.o4; have a' := this.n5
  omega
theorem vp_len {p : List S29} (h : vp p = true) : p.length ≤ 20 := ((vp_iff p).mp h).1
def b (d : D) : ByteArray := ⟨d.toArray⟩
theorem b_data (d : D) : (b d).data.toList = d := by simp [b]
theorem b_size (d : D) : (b d).size = d.length := by rw [Lib.size_eq, b_data]
theorem b_of (s : ByteArray) : b s.data.toList = s := ba_ext (by rw [b_data])
theorem b_append (x y : D) : b x ++ b y = b (x ++ y) := ba_ext (by simp [b_data])
def cutOf (c : S29) : Nat := (8 - (c.f2 - ((co c).length : Int))).toNat
def z48 (l : D) : Bool := l.all (· == 48)
def wC (c : S29) (s : D) (ph : Int) : D × Int :=
  if ph = 1 then (if z48 ((s.drop (cn c).length).take (cutOf c - (cn c).length)) = true then (co c ++ s.drop (cutOf c), 0) else ([], 120)) else (s, 0)
def wgo (s : D) (ph : Int) (l : List S29) : D × Int :=
  match l.find? (fun c => (cn c).isPrefixOf s) with
  | none => ([], 120)
  | some c => wC c s ph
def wS (p : List S29) (m : Nat) (ph : Int) : D × Int := wgo (eightK 8 m) ph p
theorem trim0 (s : ByteArray) (h : s.size ≤ 9223372036854775807) : ∃ t, strings_Trim.f s (⟨#[48]⟩ : ByteArray) = some t ∧ (t.toList = ([] : D) ↔ z48 s.data.toList = true) := by
  refine ⟨⟨(Lib.trimS s.data.toList [48]).toArray⟩, ?_, ?_⟩
  · unfold strings_Trim.f
    rw [if_pos ⟨h, by decide, by decide⟩]
  · rw [ByteArray.toList_mk, trim_nil]
    unfold z48
    have : (fun x => ([48] : D).contains x) = (fun x : UInt8 => x == 48) := by funext x; exact Lib.contains_one 48 x
    rw [this]
theorem write_from (p : List S29) (hv : vp p = true) (s : D) (hs : s.length = 8) (ph : Int) : ∀ m i : Nat, m + i = p.length → Ev (fun k => plan_Write.l0 k ph (b s) p (p.length : Int) (i : Int)) (b (wgo s ph (p.drop i)).1, (wgo s ph (p.drop i)).2)
  | 0, i, h => by
    refine Ev.step (fun k => by rw [plan_Write.l0]) ?_
    have h1 : ¬ ((i : Int) < p.length) := by omega
    simp only [h1, if_false]
    rw [List.drop_eq_nil_of_le (by omega)]
    exact Ev.now _
  | m + 1, i, h => by
    have hv20 := vp_len hv
    have h1 : ((i : Int) < p.length) := by omega
    have h2 : (0 : Int) ≤ i := by omega
    have hl : i < p.length := by omega
    have hc := vp_one hv (List.getElem_mem hl)
    have ih := write_from p hv s hs ph m (i + 1) (by omega)
    refine Ev.step (fun k => by rw [plan_Write.l0]) ?_
    simp only [h1, h2, if_true, rd29 p i hl, wi i (by omega), drop_at p i hl]
    unfold strings_HasPrefix.f Lib.hasPrefix
    simp only [Option.bind_some, b_data]
    generalize p[i] = c at *
    unfold wgo
    rw [List.find?_cons]
    show Ev (fun k => if (cn c).isPrefixOf s = true then _ else _) _
    cases hp : (cn c).isPrefixOf s with
    | false =>
      simp only [Bool.false_eq_true, if_false]
      exact ih
    | true =>
      simp only [if_true]
      have e0 : c.f0.size = (co c).length := Lib.size_eq _
      have e1 : c.f1.size = (cn c).length := Lib.size_eq _
      have a1 := hc.o1; have a2 := hc.o4; have a3 := hc.n1; have a4 := hc.n5; have a5 := hc.l1; have a6 := hc.l7; have a7 := hc.rm
      by_cases hph : ph = 1
      · simp only [hph, if_true, wC, plan_room.f, Option.bind_some, e0, e1, b_size, hs]
        have hr : wrap64 (c.f2 - ((co c).length : Int)) = c.f2 - (co c).length := w64 (by omega) (by omega)
        have hcut : wrap64 (8 - (c.f2 - ((co c).length : Int))) = (cutOf c : Int) := by unfold cutOf; rw [w64 (by omega) (by omega)]; omega
        have hcc : cutOf c ≤ 8 := by unfold cutOf; omega
        have hcn : (cn c).length ≤ cutOf c := by unfold cutOf; omega
        simp only [hr, hcut]
        have h3 : (0 : Int) ≤ (cn c).length := by omega
        have h4 : ((cn c).length : Int) ≤ (cutOf c : Int) := by omega
        have h5 : (cutOf c : Int) ≤ ((8 : Nat) : Int) := by omega
        simp only [h3, h4, h5, if_true, Int.toNat_natCast]
        have hsz : ((b s).extract (cn c).length (cutOf c)).size ≤ 9223372036854775807 := by rw [Lib.size_eq, Lib.extract_data, b_data, List.length_take, List.length_drop]; omega
        obtain ⟨t, ht, htz⟩ := trim0 ((b s).extract (cn c).length (cutOf c)) hsz
        rw [Lib.extract_data, b_data] at htz
        simp only [ht, Option.bind_some]
        by_cases hz : z48 ((s.drop (cn c).length).take (cutOf c - (cn c).length)) = true
        · have h6 := htz.mpr hz
          have h7 : (0 : Int) ≤ (cutOf c : Int) := by omega
          have e8 : ((b s).extract (cutOf c) 8).data.toList = s.drop (cutOf c) := by
            rw [Lib.extract_data, b_data, List.take_of_length_le (by rw [List.length_drop]; omega)]
          have h8 : (co c).length + ((b s).extract (cutOf c) 8).size ≤ 9223372036854775807 := by rw [Lib.size_eq ((b s).extract _ _), e8, List.length_drop]; omega
          simp only [h6, hz, if_true, h7, h8]
          have : c.f0 ++ (b s).extract (cutOf c) 8 = b (co c ++ s.drop (cutOf c)) := by
            apply ba_ext; rw [b_data]; simp only [ByteArray.data_append, Array.toList_append, e8]; rfl
          rw [this]
          exact Ev.now _
        · have h6 : ¬ t.toList = ([] : D) := fun e => hz (htz.mp e)
          simp only [h6, hz, if_false]
          exact Ev.now _
      · simp only [hph, if_false, wC]
        exact Ev.now _
def okPh (ph : Int) : Bool := decide (1 ≤ ph) && decide (ph ≤ 3)
theorem isPhase_eq (ph : Int) : plan_isPhase.f ph = some (okPh ph) := by
  unfold plan_isPhase.f
  rw [isWithin_eq]
  rfl
theorem write_ev (p : List S29) (hv : vp p = true) (m : Nat) (hm : m ≤ 99999999) (ph : Int) (hp : okPh ph = true) : Ev (fun k => plan_Write.f k p (m : Int) ph) (b (wS p m ph).1, (wS p m ph).2) := by
  have hl := vp_len hv
  unfold plan_Write.f
  refine Ev.bind (valid_ev p (by omega) (vp_small hv)) ?_
  simp only [hv, if_true, isPhase_eq, hp, Option.bind_some, isWithin_eq]
  have h1 : decide ((0 : Int) ≤ m) = true := by simp
  have h2 : decide ((m : Int) ≤ 99999999) = true := by simp; omega
  simp only [h1, h2, Bool.and_true, Bool.not_true]
  refine Ev.step (fun k => by rw [plan_Write.j0]) ?_
  simp only [Bool.false_eq_true, if_false, eight_eq m hm, Option.bind_some]
  have := write_from p hv (eightK 8 m) (eightK_length 8 m) ph p.length 0 (by omega)
  simpa [wS, b] using this
def lo (c : S29) : Nat := val (cn c) * 10 ^ (8 - (cn c).length)
def hi (c : S29) (ph : Int) : Nat := lo c + (if ph = 1 then 10 ^ (c.f2 - ((co c).length : Int)).toNat else 10 ^ (8 - (cn c).length))
theorem lo_lt {c : S29} (h : One c) : lo c + 10 ^ (8 - (cn c).length) ≤ 100000000 := by
  have h1 := val_lt _ h.nd
  have h2 : 10 ^ (cn c).length * 10 ^ (8 - (cn c).length) = 100000000 := by
    rw [← Nat.pow_add]
    have : (cn c).length + (8 - (cn c).length) = 8 := by have := h.n5; omega
    rw [this]
  unfold lo
  calc val (cn c) * 10 ^ (8 - (cn c).length) + 10 ^ (8 - (cn c).length) = (val (cn c) + 1) * 10 ^ (8 - (cn c).length) := by rw [Nat.add_mul]; omega
    _ ≤ 10 ^ (cn c).length * 10 ^ (8 - (cn c).length) := Nat.mul_le_mul_right _ (by omega)
    _ = 100000000 := h2
theorem hi_le {c : S29} (h : One c) (ph : Int) : lo c < hi c ph ∧ hi c ph ≤ hi c 2 ∧ hi c 2 ≤ 100000000 := by
  have h1 := lo_lt h
  have e2 : hi c 2 = lo c + 10 ^ (8 - (cn c).length) := by unfold hi; rw [if_neg (by decide)]
  have h3 := Nat.pow_pos (n := 8 - (cn c).length) (show 0 < 10 by decide)
  have h4 := Nat.pow_pos (n := (c.f2 - ((co c).length : Int)).toNat) (show 0 < 10 by decide)
  rw [e2]
  unfold hi
  split
  · have : 10 ^ (c.f2 - ((co c).length : Int)).toNat ≤ 10 ^ (8 - (cn c).length) := Nat.pow_le_pow_right (by decide) (by have := h.rm; have := h.n5; omega)
    omega
  · omega
theorem range_ev (p : List S29) (hv : vp p = true) (i : Nat) (hi' : i < p.length) (ph : Int) (hp : okPh ph = true) : Ev (fun k => plan_Range.f k p (i : Int) ph) ((lo p[i] : Int), (hi p[i] ph : Int), 0) := by
  have hl := vp_len hv
  unfold plan_Range.f
  refine Ev.bind (valid_ev p (by omega) (vp_small hv)) ?_
  have h1 : decide ((0 : Int) ≤ i) = true := by simp
  have h2 : decide ((i : Int) ≤ wrap64 ((p.length : Int) - 1)) = true := by rw [w64 (by omega) (by omega)]; simp; omega
  simp only [hv, if_true, isPhase_eq, hp, Option.bind_some, isWithin_eq, h1, h2, Bool.and_true, Bool.not_true]
  refine Ev.step (fun k => by rw [plan_Range.j0]) ?_
  have h3 : (0 : Int) ≤ i := by omega
  have h4 : (i : Int) < p.length := by omega
  have hc := vp_one hv (List.getElem_mem hi')
  simp only [Bool.false_eq_true, if_false, h3, h4, if_true, rd29 p i hi']
  generalize p[i] = c at *
  have e0 : c.f0.size = (co c).length := Lib.size_eq _
  have e1 : c.f1.size = (cn c).length := Lib.size_eq _
  have a1 := hc.o1; have a2 := hc.o4; have a3 := hc.n1; have a4 := hc.n5; have a5 := hc.l1; have a6 := hc.l7; have a7 := hc.rm
  have ha : strconv_Atoi.f c.f1 = some ((val (cn c) : Int), none) := atoi_eq c.f1 (by omega) hc.nd (by omega)
  have hw : wrap64 (8 - ((c.f1.size : Nat) : Int)) = ((8 - (cn c).length : Nat) : Int) := by rw [e1, w64 (by omega) (by omega)]; omega
  simp only [ha, Option.bind_some, hw]
  refine Ev.bind (power_ev (8 - (cn c).length) (by omega)) ?_
  have hlo := hi_le hc ph
  have hlo2 : lo c + 10 ^ (8 - (cn c).length) ≤ 100000000 := lo_lt hc
  have e2 : wrap64 ((val (cn c) : Int) * ((10 ^ (8 - (cn c).length) : Nat) : Int)) = (lo c : Int) := by
    have : (val (cn c) : Int) * ((10 ^ (8 - (cn c).length) : Nat) : Int) = (lo c : Int) := by unfold lo; rw [Int.natCast_mul]
    rw [this, wnat _ (Nat.le_trans (Nat.le_trans (Nat.le_add_right _ _) hlo2) (by decide))]
  simp only [e2]
  by_cases hph : ph = 1
  · simp only [hph, if_true, plan_room.f, Option.bind_some, e0]
    have hr : wrap64 (c.f2 - ((co c).length : Int)) = (((c.f2 - ((co c).length : Int)).toNat : Nat) : Int) := by rw [w64 (by omega) (by omega)]; omega
    rw [hr]
    refine Ev.bind (power_ev _ (by omega)) ?_
    have : hi c ph = lo c + 10 ^ (c.f2 - ((co c).length : Int)).toNat := by unfold hi; rw [if_pos hph]
    rw [hph] at this hlo
    have key : (lo c : Int) + ((10 ^ (c.f2 - ((co c).length : Int)).toNat : Nat) : Int) = (hi c 1 : Int) := by rw [this, Int.natCast_add]
    simp only [key]
    rw [wnat _ (Nat.le_trans (Nat.le_trans hlo.2.1 hlo.2.2) (by decide))]
    exact Ev.now _
  · simp only [hph, if_false]
    have : hi c ph = lo c + 10 ^ (8 - (cn c).length) := by unfold hi; rw [if_neg hph]
    have key : (lo c : Int) + ((10 ^ (8 - (cn c).length) : Nat) : Int) = (hi c ph : Int) := by rw [this, Int.natCast_add]
    simp only [key]
    rw [wnat _ (Nat.le_trans (Nat.le_trans hlo.2.1 hlo.2.2) (by decide))]
    exact Ev.now _
theorem rphase_eq (ph : Int) : dialtoneref12_phase.f ph = some (okPh ph) := by
  unfold dialtoneref12_phase.f okPh
  by_cases h : ph ≥ 1
  · have : (1 : Int) ≤ ph := h
    simp [h, this]
  · have : ¬ (1 : Int) ≤ ph := h
    simp [h, this]
theorem rrange_in (p : List S29) (i : Nat) (hi' : i < p.length) (hc : One p[i]) (F : Nat) (hF : F ≤ 100000000) (n : Nat) (hn : (n : Int) = p[i].f2 - ((co p[i]).length : Int)) : ∀ m j : Nat, m + j = n → Ev (fun k => dialtoneref12_Range.l1 k p (i : Int) (F : Int) ((10 ^ j : Nat) : Int) (j : Int)) ((F : Int), ((F + 10 ^ n : Nat) : Int), 0)
  | 0, j, h => by
    refine Ev.step (fun k => by rw [dialtoneref12_Range.l1]) ?_
    have h3 : (0 : Int) ≤ i := by omega
    have h4 : (i : Int) < p.length := by omega
    have e0 : p[i].f0.size = (co p[i]).length := Lib.size_eq _
    have a1 := hc.o1; have a2 := hc.o4; have a5 := hc.l1; have a6 := hc.l7
    have hr : wrap64 (p[i].f2 - ((co p[i]).length : Int)) = (n : Int) := by rw [w64 (by omega) (by omega)]; omega
    have h1 : ¬ (j : Int) < n := by omega
    simp only [h3, h4, if_true, rd29 p i hi', dialtoneref12_local.f, Option.bind_some, e0, hr, h1, if_false]
    have hj : j = n := by omega
    have hp := pow10_small (n := n) (by omega)
    rw [hj]
    have key : (F : Int) + ((10 ^ n : Nat) : Int) = ((F + 10 ^ n : Nat) : Int) := by rw [Int.natCast_add]
    simp only [key]
    rw [wnat _ (Nat.le_trans (Nat.add_le_add hF hp) (by decide))]
    exact Ev.now _
  | m + 1, j, h => by
    refine Ev.step (fun k => by rw [dialtoneref12_Range.l1]) ?_
    have h3 : (0 : Int) ≤ i := by omega
    have h4 : (i : Int) < p.length := by omega
    have e0 : p[i].f0.size = (co p[i]).length := Lib.size_eq _
    have a1 := hc.o1; have a2 := hc.o4; have a5 := hc.l1; have a6 := hc.l7
    have hr : wrap64 (p[i].f2 - ((co p[i]).length : Int)) = (n : Int) := by rw [w64 (by omega) (by omega)]; omega
    have h1 : (j : Int) < n := by omega
    simp only [h3, h4, if_true, rd29 p i hi', dialtoneref12_local.f, Option.bind_some, e0, hr, h1, wi j (by omega)]
    have hp := pow10_small (n := j) (by omega)
    have : wrap64 (10 * ((10 ^ j : Nat) : Int)) = ((10 ^ (j + 1) : Nat) : Int) := by
      rw [Nat.pow_succ]
      generalize 10 ^ j = q at hp ⊢
      rw [w64 (by omega) (by omega)]; omega
    rw [this]
    exact rrange_in p i hi' hc F hF n hn m (j + 1) (by omega)
theorem rrange_out (p : List S29) (i : Nat) (hi' : i < p.length) (hc : One p[i]) (ph : Int) : ∀ m j : Nat, m + j = 8 → (cn p[i]).length ≤ j → Ev (fun k => dialtoneref12_Range.l0 k p (i : Int) ph ((val (cn p[i]) * 10 ^ (j - (cn p[i]).length) : Nat) : Int) ((10 ^ (j - (cn p[i]).length) : Nat) : Int) (j : Int)) ((lo p[i] : Int), (hi p[i] ph : Int), 0)
  | 0, j, h, hj => by
    refine Ev.step (fun k => by rw [dialtoneref12_Range.l0]) ?_
    have h1 : ¬ ((j : Int) < 8) := by omega
    simp only [h1, if_false]
    have a1 := hc.o1; have a2 := hc.o4; have a3 := hc.n1; have a4 := hc.n5; have a5 := hc.l1; have a6 := hc.l7; have a7 := hc.rm
    have hlo := hi_le hc ph
    have hj8 : j = 8 := by omega
    rw [hj8]
    have hF : val (cn p[i]) * 10 ^ (8 - (cn p[i]).length) = lo p[i] := rfl
    rw [hF]
    by_cases hph : ph = 1
    · simp only [hph, if_true]
      have := rrange_in p i hi' hc (lo p[i]) (by omega) (p[i].f2 - ((co p[i]).length : Int)).toNat (by omega) _ 0 (Nat.add_zero _)
      have e : hi p[i] 1 = lo p[i] + 10 ^ (p[i].f2 - ((co p[i]).length : Int)).toNat := by unfold hi; rw [if_pos rfl]
      rw [e]
      simpa using this
    · simp only [hph, if_false]
      have e : hi p[i] ph = lo p[i] + 10 ^ (8 - (cn p[i]).length) := by unfold hi; rw [if_neg hph]
      have key : (lo p[i] : Int) + ((10 ^ (8 - (cn p[i]).length) : Nat) : Int) = (hi p[i] ph : Int) := by rw [e, Int.natCast_add]
      simp only [key]
      rw [wnat _ (Nat.le_trans (Nat.le_trans hlo.2.1 hlo.2.2) (by decide))]
      exact Ev.now _
  | m + 1, j, h, hj => by
    refine Ev.step (fun k => by rw [dialtoneref12_Range.l0]) ?_
    have h1 : ((j : Int) < 8) := by omega
    simp only [h1, if_true, wi j (by omega)]
    have hlo := lo_lt hc
    have hp := pow10_small (n := j - (cn p[i]).length) (by omega)
    have e : j + 1 - (cn p[i]).length = (j - (cn p[i]).length) + 1 := by omega
    have hle : val (cn p[i]) * 10 ^ (j - (cn p[i]).length) ≤ lo p[i] := Nat.mul_le_mul_left _ (Nat.pow_le_pow_right (by decide) (by omega))
    have e1 : wrap64 (10 * ((val (cn p[i]) * 10 ^ (j - (cn p[i]).length) : Nat) : Int)) = ((val (cn p[i]) * 10 ^ (j + 1 - (cn p[i]).length) : Nat) : Int) := by
      rw [e, Nat.pow_succ, ← Nat.mul_assoc]
      have hq := Nat.le_trans hle (Nat.le_trans (Nat.le_add_right _ _) hlo)
      generalize val (cn p[i]) * 10 ^ (j - (cn p[i]).length) = q at hq ⊢
      clear hle hlo hp
      rw [w64 (by omega) (by omega)]; omega
    have e2 : wrap64 (10 * ((10 ^ (j - (cn p[i]).length) : Nat) : Int)) = ((10 ^ (j + 1 - (cn p[i]).length) : Nat) : Int) := by
      rw [e, Nat.pow_succ]
      generalize 10 ^ (j - (cn p[i]).length) = q at hp ⊢
      clear hle hlo
      rw [w64 (by omega) (by omega)]; omega
    rw [e1, e2]
    exact rrange_out p i hi' hc ph m (j + 1) (by omega) (by omega)
theorem rrange_ev (p : List S29) (hv : vp p = true) (i : Nat) (hi' : i < p.length) (ph : Int) (hp : okPh ph = true) : Ev (fun k => dialtoneref12_Range.f k p (i : Int) ph) ((lo p[i] : Int), (hi p[i] ph : Int), 0) := by
  have hl := vp_len hv
  unfold dialtoneref12_Range.f
  refine Ev.bind (rvalid_ev p (by omega) (vp_small hv)) ?_
  have h1 : ¬ (i : Int) < 0 := by omega
  have h2 : ¬ (i : Int) ≥ p.length := by omega
  simp only [hv, if_true, h1, h2, if_false, rphase_eq, hp, Option.bind_some, Bool.not_true]
  refine Ev.step (fun k => by rw [dialtoneref12_Range.j0]) ?_
  have h3 : (0 : Int) ≤ i := by omega
  have h4 : (i : Int) < p.length := by omega
  have hc := vp_one hv (List.getElem_mem hi')
  have e1 : p[i].f1.size = (cn p[i]).length := Lib.size_eq _
  have a3 := hc.n1; have a4 := hc.n5
  simp only [Bool.false_eq_true, if_false, h3, h4, if_true, rd29 p i hi']
  refine Ev.bind (value_ev p[i].f1 (by omega) hc.nd) ?_
  rw [e1]
  have := rrange_out p i hi' hc ph (8 - (cn p[i]).length) (cn p[i]).length (by omega) (Nat.le_refl _)
  simpa [cn] using this
end Go.Proofs.YtlmfoblgheepoaaGreatDoor.Pure
end
section
namespace Go.Proofs.YtlmfoblgheepoaaGreatDoor.Pure
open Go.RowKit Go.Proofs.YtlmfoblgheepoaaGreatDoorW.PrintWords Go.Proofs.YtlmfoblgheepoaaGreatDoorW.PrintLast Go.Proofs.YtlmfoblgheepoaaGreatDoorW.PrintMore Go.Proofs.YtlmfoblgheepoaaGreatDoor.Pl
set_option linter.unusedVariables false
set_option linter.unusedSimpArgs false
structure En where
  key : D
  idx : Int
  len : Int
  st : D
def zs (c : S29) : Nat := ((8 - ((cn c).length : Int)) - (c.f2 - ((co c).length : Int))).toNat
def eOld (i : Nat) (c : S29) : En := ⟨co c, i, c.f2, cn c ++ List.replicate (zs c) 48⟩
def eNew (i : Nat) (c : S29) : En := ⟨cn c, i, 8, cn c⟩
def es (ph : Int) (i : Nat) (c : S29) : List En := (if ph ≠ 3 then [eOld i c] else []) ++ (if ph ≠ 1 then [eNew i c] else [])
def ents (ph : Int) : List S29 → Nat → List En
  | [], _ => []
  | c :: r, i => es ph i c ++ ents ph r (i + 1)
structure EnOk (e : En) : Prop where
  kd : digs e.key = true
  sd : digs e.st = true
  k1 : 1 ≤ e.key.length
  s1 : 1 ≤ e.st.length
  kl : (e.key.length : Int) < e.len
  l8 : e.len ≤ 8
  tot : (e.st.length : Int) + (e.len - e.key.length) = 8
  key5 : e.key.length ≤ 5
theorem digs_rep (n : Nat) : digs (List.replicate n 48) = true := by
  unfold digs; rw [List.all_replicate]; simp; right; decide
theorem eOld_ok {c : S29} (h : One c) (i : Nat) : EnOk (eOld i c) := by
  have a1 := h.o1; have a2 := h.o4; have a3 := h.n1; have a4 := h.n5; have a5 := h.l1; have a6 := h.l7; have a7 := h.rm
  refine ⟨h.od, ?_, h.o1, ?_, h.l1, ?_, ?_, ?_⟩
  · simp only [eOld]; rw [digs_append, h.nd, digs_rep]; rfl
  · simp only [eOld]; rw [List.length_append]; omega
  · simp only [eOld]; omega
  · simp only [eOld, zs]; rw [List.length_append, List.length_replicate]; omega
  · simp only [eOld]; omega
theorem eNew_ok {c : S29} (h : One c) (i : Nat) : EnOk (eNew i c) := by
  have a1 := h.o1; have a2 := h.o4; have a3 := h.n1; have a4 := h.n5; have a5 := h.l1; have a6 := h.l7; have a7 := h.rm
  refine ⟨h.nd, h.nd, h.n1, h.n1, ?_, ?_, ?_, ?_⟩ <;> simp only [eNew] <;> omega
theorem es_ok {c : S29} (h : One c) {ph : Int} {i : Nat} {e : En} (he : e ∈ es ph i c) : EnOk e := by
  unfold es at he
  rcases List.mem_append.mp he with he | he
  · split at he
    · rw [List.mem_singleton.mp he]; exact eOld_ok h i
    · cases he
  · split at he
    · rw [List.mem_singleton.mp he]; exact eNew_ok h i
    · cases he
theorem ents_ok {ph : Int} : ∀ {p : List S29} {i : Nat} {e : En}, (∀ c ∈ p, One c) → e ∈ ents ph p i → EnOk e
  | [], _, _, _, he => by cases he
  | c :: r, i, e, hp, he => by
    rcases List.mem_append.mp he with he | he
    · exact es_ok (hp c List.mem_cons_self) he
    · exact ents_ok (fun x hx => hp x (List.mem_cons_of_mem _ hx)) he
theorem apt_iff (a d : D) : apt a d = true ↔ ¬ a <+: d ∧ ¬ d <+: a := by
  unfold apt
  rw [← List.isPrefixOf_iff_prefix, ← List.isPrefixOf_iff_prefix]
  cases a.isPrefixOf d <;> cases d.isPrefixOf a <;> decide
theorem apt_symm {a d : D} (h : apt a d = true) : apt d a = true := by
  rw [apt_iff] at h ⊢; exact ⟨h.2, h.1⟩
theorem dif_symm {c d : S29} (h : dif c d = true) : dif d c = true := by
  unfold dif at h ⊢
  simp only [Bool.and_eq_true] at h ⊢
  exact ⟨apt_symm h.1, apt_symm h.2.1, apt_symm h.2.2.2, apt_symm h.2.2.1⟩
theorem pgo_pair : ∀ (rest done : List S29), pgo done rest = true → rest.Pairwise (fun c d => dif c d = true) ∧ ∀ c ∈ rest, ∀ d ∈ done, dif c d = true
  | [], _, _ => ⟨List.Pairwise.nil, by intro c hc; cases hc⟩
  | c :: r, done, h => by
    rw [pgo, Bool.and_eq_true, List.all_eq_true] at h
    obtain ⟨h1, h2⟩ := pgo_pair r (done ++ [c]) h.2
    refine ⟨List.Pairwise.cons (fun d hd => dif_symm (h2 d hd c (by simp))) h1, fun x hx d hd => ?_⟩
    rcases List.mem_cons.mp hx with rfl | hx
    · exact h.1 d hd
    · exact h2 x hx d (by simp [hd])
theorem vp_pair {p : List S29} (h : vp p = true) : p.Pairwise (fun c d => dif c d = true) := (pgo_pair p [] ((vp_iff p).mp h).2.2).1
theorem es_key {ph : Int} {i : Nat} {c : S29} {e : En} (he : e ∈ es ph i c) : e.key = co c ∨ e.key = cn c := by
  unfold es at he
  rcases List.mem_append.mp he with he | he
  · split at he
    · rw [List.mem_singleton.mp he]; exact .inl rfl
    · cases he
  · split at he
    · rw [List.mem_singleton.mp he]; exact .inr rfl
    · cases he
theorem ents_key {ph : Int} : ∀ {p : List S29} {i : Nat} {e : En}, e ∈ ents ph p i → ∃ c ∈ p, e.key = co c ∨ e.key = cn c
  | [], _, _, he => by cases he
  | c :: r, i, e, he => by
    rcases List.mem_append.mp he with he | he
    · exact ⟨c, List.mem_cons_self, es_key he⟩
    · obtain ⟨d, hd, h⟩ := ents_key he
      exact ⟨d, List.mem_cons_of_mem _ hd, h⟩
theorem dif_keys {c d : S29} (h : dif c d = true) {x y : D} (hx : x = co c ∨ x = cn c) (hy : y = co d ∨ y = cn d) : apt x y = true := by
  unfold dif at h
  simp only [Bool.and_eq_true] at h
  rcases hx with rfl | rfl <;> rcases hy with rfl | rfl
  · exact h.1
  · exact h.2.2.1
  · exact h.2.2.2
  · exact h.2.1
theorem ents_pair {ph : Int} : ∀ {p : List S29} {i : Nat}, p.Pairwise (fun c d => dif c d = true) → (∀ c ∈ p, One c) → (ents ph p i).Pairwise (fun e f => apt e.key f.key = true)
  | [], _, _, _ => List.Pairwise.nil
  | c :: r, i, h, ho => by
    cases h with
    | cons h1 h2 =>
    rw [ents, List.pairwise_append]
    refine ⟨?_, ents_pair h2 (fun x hx => ho x (List.mem_cons_of_mem _ hx)), fun e he f hf => ?_⟩
    · have := (ho c List.mem_cons_self).ap
      unfold es
      by_cases h3 : ph = 3 <;> by_cases h1 : ph = 1 <;> simp [h3, h1, eOld, eNew] <;> exact this
    · obtain ⟨d, hd, hk⟩ := ents_key hf
      exact dif_keys (h1 d hd) (es_key he) hk
theorem pair_eq : ∀ {l : List En}, l.Pairwise (fun e f => apt e.key f.key = true) → ∀ {e f : En}, e ∈ l → f ∈ l → e = f ∨ apt e.key f.key = true
  | [], _, _, _, he, _ => by cases he
  | x :: l, h, e, f, he, hf => by
    cases h with
    | cons h1 h2 =>
    rcases List.mem_cons.mp he with he | he
    · rcases List.mem_cons.mp hf with hf | hf
      · rw [he, hf]; exact .inl rfl
      · rw [he]; exact .inr (h1 f hf)
    · rcases List.mem_cons.mp hf with hf | hf
      · rw [hf]; exact .inr (apt_symm (h1 e he))
      · exact pair_eq h2 he hf
theorem pair_hit {l : List En} (h : l.Pairwise (fun e f => apt e.key f.key = true)) {e f : En} (he : e ∈ l) (hf : f ∈ l) {d : D} (h1 : e.key <+: d) (h2 : f.key <+: d) : e = f := by
  rcases pair_eq h he hf with h3 | h3
  · exact h3
  · rw [apt_iff] at h3
    rcases List.prefix_or_prefix_of_prefix h1 h2 with h4 | h4
    · exact absurd h4 h3.1
    · exact absurd h4 h3.2
def hitS (e : En) (d : D) : Int × Int × Int × Int × Int :=
  if (d.length : Int) < e.len then (1, 0, 0, 0, 0) else (2, (val (e.st ++ (d.drop e.key.length).take (e.len.toNat - e.key.length)) : Int), e.idx, e.len, 0)
def rE (l : List En) (d : D) : Int × Int × Int × Int × Int :=
  match l.find? (fun e => e.key.isPrefixOf d) with
  | some e => hitS e d
  | none => if l.any (fun e => d.isPrefixOf e.key) = true then (1, 0, 0, 0, 0) else (0, 0, 0, 0, 0)
def rS (p : List S29) (d : D) (ph : Int) : Int × Int × Int × Int × Int := rE (ents ph p 0) d
def toB (e : En) : ByteArray × Ent := (b e.key, (e.idx, e.len, b e.st))
theorem entGo_eq (ph : Int) : ∀ (p : List S29) (i : Nat) (L : List (ByteArray × Ent)), (∀ c ∈ p, One c) → entGo ph p i L = some (((ents ph p i).map toB).reverse ++ L)
  | [], i, L, _ => rfl
  | c :: r, i, L, h => by
    have hc := h c List.mem_cons_self
    have e0 : c.f0.size = (co c).length := Lib.size_eq _
    have e1 : c.f1.size = (cn c).length := Lib.size_eq _
    have a1 := hc.o1; have a2 := hc.o4; have a3 := hc.n1; have a4 := hc.n5; have a5 := hc.l1; have a6 := hc.l7; have a7 := hc.rm
    rw [entGo, ents]
    have hst : entStep ph c i L = some (((es ph i c).map toB).reverse ++ L) := by
      unfold entStep
      rw [if_pos ⟨by omega, by omega⟩]
      unfold es
      have bo : b (co c) = c.f0 := b_of _
      have bn : b (cn c) = c.f1 := b_of _
      by_cases h3 : ph = 3
      · by_cases h1 : ph = 1
        · omega
        · simp [h3, h1, toB, eNew, bn]
      · have hz : strings_Repeat.f (⟨#[48]⟩ : ByteArray) (wrap64 (wrap64 (8 - (c.f1.size : Int)) - (c.f2 - ((co c).length : Int)))) = some (b (List.replicate (zs c) 48)) := by
          rw [e1, w64 (n := 8 - ((cn c).length : Int)) (by omega) (by omega), w64 (by omega) (by omega)]
          unfold strings_Repeat.f
          have hone : (⟨#[48]⟩ : ByteArray).size = 1 := rfl
          rw [if_pos ⟨by omega, by omega, by rw [hone]; omega⟩]
          have := Lib.repeatL_replicate (48 : UInt8) 1 (zs c)
          simp only [Nat.mul_one] at this
          have e' : Lib.repeatL (⟨#[48]⟩ : ByteArray).data.toList (8 - ((cn c).length : Int) - (c.f2 - ((co c).length : Int))).toNat = List.replicate (zs c) 48 := this
          rw [e']; rfl
        have hsz : c.f1.size + (b (List.replicate (zs c) 48)).size ≤ 9223372036854775807 := by
          rw [b_size, List.length_replicate]; unfold zs; omega
        have hb : c.f1 ++ b (List.replicate (zs c) 48) = b (cn c ++ List.replicate (zs c) 48) := by rw [← bn, b_append]
        have hr : plan_room.f c.f0 c.f1 c.f2 = some (c.f2 - ((co c).length : Int)) := by unfold plan_room.f; rw [e0, w64 (by omega) (by omega)]
        by_cases h1 : ph = 1
        · simp only [ne_eq, h3, h1, not_false_eq_true, if_true, hr, Option.bind_some, hz, hsz, hb]
          simp [toB, eOld, bo]
        · simp only [ne_eq, h3, h1, not_false_eq_true, if_true, hr, Option.bind_some, hz, hsz, hb]
          simp [toB, eOld, eNew, bo, bn]
    rw [hst, Option.bind_some, entGo_eq ph r (i + 1) _ (fun x hx => h x (List.mem_cons_of_mem _ hx))]
    simp
theorem b_inj {x y : D} (h : b x = b y) : x = y := by rw [← b_data x, h, b_data]
theorem look_some {l : List En} (h : l.Pairwise (fun e f => apt e.key f.key = true)) {e : En} (he : e ∈ l) : lookE ((l.map toB).reverse ++ []) (b e.key) = some (e.idx, e.len, b e.st) := by
  unfold lookE
  have hm : toB e ∈ ((l.map toB).reverse ++ []) := by simp; exact ⟨e, he, rfl⟩
  cases hf : (((l.map toB).reverse ++ []).find? (fun p : ByteArray × Ent => decide (p.1 = b e.key))) with
  | none =>
    have := List.find?_eq_none.mp hf (toB e) hm
    simp [toB] at this
  | some y =>
    have h1 := List.find?_some hf
    have h2 := List.mem_of_find?_eq_some hf
    simp at h2
    obtain ⟨f, hf', rfl⟩ := h2
    simp [toB] at h1
    have := b_inj (of_decide_eq_true h1)
    rcases pair_eq h he hf' with h3 | h3
    · rw [← h3]; rfl
    · rw [apt_iff, this] at h3
      exact absurd (List.prefix_refl _) h3.1
theorem look_none {l : List En} {s : D} (h : ∀ e ∈ l, e.key ≠ s) : lookE ((l.map toB).reverse ++ []) (b s) = none := by
  unfold lookE
  rw [Option.map_eq_none_iff, List.find?_eq_none]
  intro x hx
  simp at hx
  obtain ⟨f, hf, rfl⟩ := hx
  simp [toB]
  exact decide_eq_false (fun e => h f hf (b_inj e))
theorem ext_take (d : D) (k : Nat) : (b d).extract 0 k = b (d.take k) := by
  apply ba_ext; rw [Lib.extract_data, b_data, b_data]; simp
theorem loop_none {l : List En} {d : D} (h : ∀ e ∈ l, ¬ e.key <+: d) : ∀ m k, readLoop ((l.map toB).reverse ++ []) (b d) m k = some none
  | 0, k => rfl
  | m + 1, k => by
    rw [readLoop, ext_take, look_none (fun e he hk => h e he (by rw [hk]; exact List.take_prefix _ _))]
    exact loop_none h m (k + 1)
theorem loop_hit {l : List En} (h : l.Pairwise (fun e f => apt e.key f.key = true)) {d : D} (hd : digs d = true) (hl : d.length ≤ 16) {e : En} (he : e ∈ l) (ho : EnOk e) (hp : e.key <+: d) : ∀ m k, k ≤ e.key.length → e.key.length < m + k →
    readLoop ((l.map toB).reverse ++ []) (b d) m k = some (some ((hitS e d).1, (hitS e d).2.1, (hitS e d).2.2.1, (hitS e d).2.2.2.1))
  | 0, k, h1, h2 => by omega
  | m + 1, k, h1, h2 => by
    rw [readLoop, ext_take]
    have hkl := hp.length_le
    by_cases hk : k = e.key.length
    · have : d.take k = e.key := by rw [hk]; exact (List.prefix_iff_eq_take.mp hp).symm
      rw [this, look_some h he]
      simp only [b_size]
      have b1 := ho.kl; have b2 := ho.l8; have b3 := ho.tot; have b4 := ho.key5; have b5 := ho.s1
      unfold hitS
      by_cases hs : (d.length : Int) < e.len
      · simp only [hs, if_true]
      · simp only [hs, if_false]
        have ex : ((b d).extract k e.len.toNat).data.toList = (d.drop e.key.length).take (e.len.toNat - e.key.length) := by rw [Lib.extract_data, b_data, hk]
        have exl : ((b d).extract k e.len.toNat).size = e.len.toNat - e.key.length := by rw [Lib.size_eq, ex, List.length_take, List.length_drop]; omega
        have eb : (b e.st ++ (b d).extract k e.len.toNat) = b (e.st ++ (d.drop e.key.length).take (e.len.toNat - e.key.length)) := by
          apply ba_ext; simp only [ByteArray.data_append, Array.toList_append, ex, b_data]
        rw [if_pos ⟨by omega, by omega, by omega⟩, eb]
        have hdig : digs (e.st ++ (d.drop e.key.length).take (e.len.toNat - e.key.length)) = true := by
          rw [digs_append, ho.sd, Bool.true_and]
          unfold digs at hd ⊢
          rw [List.all_eq_true] at hd ⊢
          exact fun x hx => hd x (List.mem_of_mem_drop (List.mem_of_mem_take hx))
        have hlen : (e.st ++ (d.drop e.key.length).take (e.len.toNat - e.key.length)).length = 8 := by rw [List.length_append, List.length_take, List.length_drop]; omega
        rw [atoi_eq _ (by rw [b_size, hlen]; omega) (by rw [b_data]; exact hdig) (by rw [b_size, hlen]; omega)]
        simp only [Option.bind_some, b_data]
    · have : ∀ f ∈ l, f.key ≠ d.take k := by
        intro f hf hkey
        have hfp : f.key <+: d := by rw [hkey]; exact List.take_prefix _ _
        have := pair_hit h he hf hp hfp
        rw [← this] at hkey
        have : e.key.length = k := by rw [hkey, List.length_take]; omega
        omega
      rw [look_none this]
      exact loop_hit h hd hl he ho hp m (k + 1) (by omega) (by omega)
theorem any_eq (l : List En) (d : D) : (((l.map toB).reverse ++ []).any (fun p => Lib.hasPrefix p.1.data.toList (b d).data.toList)) = l.any (fun e => d.isPrefixOf e.key) := by
  unfold Lib.hasPrefix
  simp only [List.append_nil, List.any_reverse, List.any_map, b_data]
  have : ((fun p : ByteArray × Ent => d.isPrefixOf p.1.data.toList) ∘ toB) = (fun e => d.isPrefixOf e.key) := by funext e; simp [toB, b_data]
  simp [Function.comp_def, toB, b_data]
theorem hit5 (e : En) (d : D) : ((hitS e d).1, (hitS e d).2.1, (hitS e d).2.2.1, (hitS e d).2.2.2.1, (0 : Int)) = hitS e d := by
  unfold hitS; split <;> rfl
theorem rest_eq (p : List S29) (hv : vp p = true) (ph : Int) (d : D) (hd : digs d = true) (hl : d.length ≤ 16) : plan_ReadRest p (b d) ph = some (rS p d ph) := by
  have h20 := vp_len hv
  have ho : ∀ c ∈ p, One c := fun c hc => vp_one hv hc
  have hpair := ents_pair (ph := ph) (i := 0) (vp_pair hv) ho
  unfold plan_ReadRest
  rw [if_pos ⟨by omega, by rw [b_size]; omega⟩, entGo_eq ph p 0 [] ho, Option.bind_some]
  unfold rS rE
  cases hf : (ents ph p 0).find? (fun e => e.key.isPrefixOf d) with
  | none =>
    have hn : ∀ e ∈ ents ph p 0, ¬ e.key <+: d := by
      intro e he hp
      have := List.find?_eq_none.mp hf e he
      rw [List.isPrefixOf_iff_prefix] at this
      exact this hp
    rw [loop_none hn, Option.bind_some]
    simp only [readEnd, any_eq]
  | some e =>
    have h1 := List.find?_some hf
    have h2 := List.mem_of_find?_eq_some hf
    rw [List.isPrefixOf_iff_prefix] at h1
    have hk := h1.length_le
    rw [loop_hit hpair hd hl h2 (ents_ok ho h2) h1 _ 0 (by omega) (by rw [b_size]; omega), Option.bind_some]
    simp only [readEnd, hit5]
end Go.Proofs.YtlmfoblgheepoaaGreatDoor.Pure
end
section
namespace Go.Proofs.YtlmfoblgheepoaaGreatDoor.Pure
open Go.RowKit Go.Proofs.YtlmfoblgheepoaaGreatDoorW.PrintWords Go.Proofs.YtlmfoblgheepoaaGreatDoorW.PrintLast Go.Proofs.YtlmfoblgheepoaaGreatDoorW.PrintMore Go.Proofs.YtlmfoblgheepoaaGreatDoor.Pl
set_option linter.unusedVariables false
set_option linter.unusedSimpArgs false
def J64 (n : Int) : Prop := -9223372036854775808 ≤ n ∧ n ≤ 9223372036854775807
theorem pick_lt (c : Int) (hc : J64 c) (n : Nat) (hn : 0 < n) : ∃ r : Nat, r < n ∧ dialtoneref12_pick.f c (n : Int) = some (r : Int) := by
  obtain ⟨h1, h2⟩ := hc
  unfold dialtoneref12_pick.f
  have hz : ¬ (n : Int) = 0 := by omega
  by_cases h : c < 0
  · have e : wrap64 (-(wrap64 (c + 1))) = ((-(c + 1)).toNat : Int) := by rw [w64 (n := c + 1) (by omega) (by omega), w64 (by omega) (by omega)]; omega
    refine ⟨(-(c + 1)).toNat % n, Nat.mod_lt _ hn, ?_⟩
    rw [if_pos h, if_neg hz, e, Int.tmod_eq_emod_of_nonneg (by omega)]
    rfl
  · refine ⟨c.toNat % n, Nat.mod_lt _ hn, ?_⟩
    have e : c = (c.toNat : Int) := by omega
    rw [if_neg h, if_neg hz, Int.tmod_eq_emod_of_nonneg (by omega)]
    rw [e]; rfl
theorem third (x : Int) (h : J64 x) (n : Int) (hn : n = 3 ∨ n = 16) : J64 (wrap64 (Int.tdiv x n)) := by
  obtain ⟨h1, h2⟩ := h
  have : -9223372036854775808 ≤ Int.tdiv x n ∧ Int.tdiv x n ≤ 9223372036854775807 := by
    rcases hn with rfl | rfl <;> (rw [Int.tdiv_eq_ediv]; have s3 : Int.sign 3 = 1 := rfl; have s16 : Int.sign 16 = 1 := rfl; split <;> omega)
  rw [w64 this.1 this.2]; exact this
theorem ph_of (r : Nat) (h : r < 3) : okPh (wrap64 (1 + (r : Int))) = true ∧ wrap64 (1 + (r : Int)) = ((1 + r : Nat) : Int) := by
  have : wrap64 (1 + (r : Int)) = ((1 + r : Nat) : Int) := by rw [w64 (by omega) (by omega)]; omega
  refine ⟨?_, this⟩
  rw [this]; unfold okPh; simp; omega
structure Almost (c : S29) : Prop where
  od : digs (co c) = true
  nd : digs (cn c) = true
  s0 : c.f0.size ≤ 3
  s1 : c.f1.size ≤ 3
theorem one_made (x0 x1 x2 : Int) (h0 : J64 x0) (h1 : J64 x1) (h2 : J64 x2) : ∃ c : S29, Almost c ∧ J64 c.f2 ∧ Ev (fun k => dialtoneref12_One.f k x0 x1 x2) (c.f0, c.f1, c.f2) := by
  obtain ⟨r1, l1, e1⟩ := pick_lt (wrap64 (Int.tdiv x0 3)) (third x0 h0 3 (.inl rfl)) 1000 (by decide)
  obtain ⟨r2, l2, e2⟩ := pick_lt x0 h0 3 (by decide)
  obtain ⟨r3, l3, e3⟩ := pick_lt (wrap64 (Int.tdiv x1 3)) (third x1 h1 3 (.inl rfl)) 1000 (by decide)
  obtain ⟨r4, l4, e4⟩ := pick_lt x1 h1 3 (by decide)
  obtain ⟨o, so, od, ev1⟩ := prefix_ev r1 (1 + r2) (by omega) l1
  obtain ⟨n, sn, nd, ev2⟩ := prefix_ev r3 (1 + r4) (by omega) l3
  have hm : mn (wrap64 (7 - (o.size : Int))) (wrap64 (8 - (n.size : Int))) = ((min (7 - o.size) (8 - n.size) : Nat) : Int) := by
    rw [w64 (n := 7 - (o.size : Int)) (by omega) (by omega), w64 (n := 8 - (n.size : Int)) (by omega) (by omega)]
    unfold mn; split <;> omega
  obtain ⟨r5, l5, e5⟩ := pick_lt x2 h2 (min (7 - o.size) (8 - n.size)) (by omega)
  have hw : wrap64 (wrap64 ((o.size : Int) + 1) + (r5 : Int)) = ((o.size + 1 + r5 : Nat) : Int) := by
    rw [w64 (n := (o.size : Int) + 1) (by omega) (by omega), w64 (by omega) (by omega)]; omega
  refine ⟨⟨o, n, ((o.size + 1 + r5 : Nat) : Int)⟩, ⟨od, nd, by show o.size ≤ 3; omega, by show n.size ≤ 3; omega⟩, ⟨by show _ ≤ ((o.size + 1 + r5 : Nat) : Int); omega, by show ((o.size + 1 + r5 : Nat) : Int) ≤ _; omega⟩, ?_⟩
  unfold dialtoneref12_One.f
  have e1' : dialtoneref12_pick.f (wrap64 (Int.tdiv x0 3)) 1000 = some (r1 : Int) := e1
  have e2' : dialtoneref12_pick.f x0 3 = some (r2 : Int) := e2
  have e3' : dialtoneref12_pick.f (wrap64 (Int.tdiv x1 3)) 1000 = some (r3 : Int) := e3
  have e4' : dialtoneref12_pick.f x1 3 = some (r4 : Int) := e4
  simp only [e1', e2', Option.bind_some, (ph_of r2 l2).2]
  refine Ev.bind ev1 ?_
  simp only [e3', e4', Option.bind_some, (ph_of r4 l4).2]
  refine Ev.bind ev2 ?_
  simp only [hm, e5, Option.bind_some, hw]
  exact Ev.now _
theorem rd23 (l : List S23) (i : Nat) (h : i < l.length) : rd_T23 l (i : Int) = l[i] := by
  unfold rd_T23; simp [h]
def Ints3 (l : List S23) : Prop := ∀ x ∈ l, J64 x.f0 ∧ J64 x.f1 ∧ J64 x.f2
theorem made_from (l : List S23) (hl : Ints3 l) : ∀ m i : Nat, m + i = l.length → ∀ p : List S29, vp p = true → p.length ≤ 8 → ∃ q, vp q = true ∧ q.length ≤ 8 ∧ Ev (fun k => dialtoneref12_Made.l0 k l p (i : Int)) q := by
  intro m
  induction m with
  | zero =>
    intro i hi p hv h8
    refine ⟨p, hv, h8, Ev.step (fun k => by rw [dialtoneref12_Made.l0]) ?_⟩
    have h1 : ¬ ((i : Int) < l.length) := by omega
    simp only [h1, if_false]
    refine Ev.step (fun k => by rw [dialtoneref12_Made.j1]) ?_
    simp only [Bool.false_eq_true, if_false]
    exact Ev.now _
  | succ m ih =>
    intro i hi p hv h8
    have h1 : ((i : Int) < l.length) := by omega
    have hil : i < l.length := by omega
    by_cases h16 : i < 16
    · have h2 : ((i : Int) < 16) := by omega
      by_cases h88 : p.length < 8
      · have h3 : ((p.length : Int) < 8) := by omega
        have hx := hl l[i] (List.getElem_mem hil)
        obtain ⟨c, ha, hj, hev⟩ := one_made l[i].f0 l[i].f1 l[i].f2 hx.1 hx.2.1 hx.2.2
        have hsm : smallP (p ++ [c]) := by
          intro d hd
          rcases List.mem_append.mp hd with hd | hd
          · exact vp_small hv d hd
          · rw [List.mem_singleton.mp hd]
            have a := ha.s0; have a' := ha.s1
            omega
        have hnx : ∃ q, vp q = true ∧ q.length ≤ 8 ∧ Ev (fun k => if vp (p ++ [c]) = true then dialtoneref12_Made.l0 k l (p ++ [c]) (wrap64 ((i : Int) + 1)) else dialtoneref12_Made.l0 k l p (wrap64 ((i : Int) + 1))) q := by
          rw [wi i (by omega)]
          by_cases hvp : vp (p ++ [c]) = true
          · obtain ⟨q, hq⟩ := ih (i + 1) (by omega) (p ++ [c]) hvp (by simp; omega)
            exact ⟨q, by simpa only [hvp, if_true] using hq⟩
          · obtain ⟨q, hq⟩ := ih (i + 1) (by omega) p hv h8
            exact ⟨q, by simpa only [hvp, if_false, Bool.false_eq_true] using hq⟩
        obtain ⟨q, hq1, hq2, hq3⟩ := hnx
        refine ⟨q, hq1, hq2, Ev.step (fun k => by rw [dialtoneref12_Made.l0]) ?_⟩
        simp only [h1, h2, h3, if_true, decide_true]
        refine Ev.step (fun k => by rw [dialtoneref12_Made.j1]) ?_
        have h4 : (0 : Int) ≤ i := by omega
        have h5 : 0 + p.length < 3518437208883 := by omega
        have h6 : p.length < 3518437208883 := by omega
        simp only [if_true, Option.bind_some, List.length_nil, List.nil_append, h1, h4, h5, h6, rd23 l i hil]
        refine Ev.bind hev ?_
        refine Ev.bind (rvalid_ev (p ++ [c]) (by simp; omega) hsm) ?_
        exact hq3
      · have h3 : ¬ ((p.length : Int) < 8) := by omega
        refine ⟨p, hv, h8, Ev.step (fun k => by rw [dialtoneref12_Made.l0]) ?_⟩
        simp only [h1, h2, h3, if_true, decide_false]
        refine Ev.step (fun k => by rw [dialtoneref12_Made.j1]) ?_
        simp only [Bool.false_eq_true, if_false]
        exact Ev.now _
    · have h2 : ¬ ((i : Int) < 16) := by omega
      refine ⟨p, hv, h8, Ev.step (fun k => by rw [dialtoneref12_Made.l0]) ?_⟩
      simp only [h1, h2, if_true, if_false]
      refine Ev.step (fun k => by rw [dialtoneref12_Made.j1]) ?_
      simp only [Bool.false_eq_true, if_false]
      exact Ev.now _
theorem made_ev (l : List S23) (hl : Ints3 l) : ∃ p, vp p = true ∧ p.length ≤ 8 ∧ Ev (fun k => dialtoneref12_Made.f k l) p := by
  obtain ⟨p, h1, h2, h3⟩ := made_from l hl l.length 0 (by omega) [] (by decide) (by decide)
  exact ⟨p, h1, h2, by simpa [dialtoneref12_Made.f] using h3⟩
theorem number_ev (p : List S29) (hv : vp p = true) (which n : Int) (hw : J64 which) (hn : J64 n) : ∃ m : Nat, m ≤ 99999999 ∧ Ev (fun k => dialtoneref12_Number.f k p which n) (m : Int) := by
  have h20 := vp_len hv
  obtain ⟨r0, l0, e0⟩ := pick_lt n hn 100000000 (by decide)
  have e0' : dialtoneref12_pick.f n 100000000 = some (r0 : Int) := e0
  have hany : Ev (fun k => dialtoneref12_Number.j0 k p which n true) (r0 : Int) := by
    refine Ev.step (fun k => by rw [dialtoneref12_Number.j0]) ?_
    simp only [if_true, e0', Option.bind_some]
    exact Ev.now _
  unfold dialtoneref12_Number.f
  by_cases hp : p.length = 0
  · have hp' : (p.length : Int) = 0 := by omega
    simp only [hp', if_true]
    exact ⟨r0, by omega, hany⟩
  · have hp' : ¬ (p.length : Int) = 0 := by omega
    obtain ⟨r1, l1, e1⟩ := pick_lt which hw 16 (by decide)
    have e1' : dialtoneref12_pick.f which 16 = some (r1 : Int) := e1
    simp only [hp', if_false, e1', Option.bind_some]
    by_cases h15 : r1 = 15
    · have : ((r1 : Int) == 15) = true := by rw [h15]; rfl
      simp only [this]
      exact ⟨r0, by omega, hany⟩
    · have : ((r1 : Int) == 15) = false := by rw [beq_eq_false_iff_ne]; omega
      simp only [this]
      obtain ⟨i, l2, e2⟩ := pick_lt (wrap64 (Int.tdiv which 16)) (third which hw 16 (.inr rfl)) p.length (by omega)
      obtain ⟨r3, l3, e3⟩ := pick_lt which hw 3 (by decide)
      have e3' : dialtoneref12_pick.f which 3 = some (r3 : Int) := e3
      have hph := ph_of r3 l3
      have hc := vp_one hv (List.getElem_mem l2)
      have hr := hi_le hc (wrap64 (1 + (r3 : Int)))
      have hev := rrange_ev p hv i l2 (wrap64 (1 + (r3 : Int))) hph.1
      obtain ⟨r4, l4, e4⟩ := pick_lt n hn (hi p[i] (wrap64 (1 + (r3 : Int))) - lo p[i]) (by omega)
      refine ⟨lo p[i] + r4, by omega, ?_⟩
      refine Ev.step (fun k => by rw [dialtoneref12_Number.j0]) ?_
      simp only [Bool.false_eq_true, if_false, e2, e3', Option.bind_some]
      refine Ev.bind hev ?_
      have hd : wrap64 ((hi p[i] (wrap64 (1 + (r3 : Int))) : Int) - (lo p[i] : Int)) = ((hi p[i] (wrap64 (1 + (r3 : Int))) - lo p[i] : Nat) : Int) := by
        generalize hi p[i] (wrap64 (1 + (r3 : Int))) = H at *
        generalize hi p[i] 2 = H2 at *
        generalize lo p[i] = L at *
        rw [w64 (by omega) (by omega)]; omega
      simp only [hd, e4, Option.bind_some]
      have hs : wrap64 ((lo p[i] : Int) + (r4 : Int)) = ((lo p[i] + r4 : Nat) : Int) := by
        rw [← Int.natCast_add]
        exact wnat _ (by omega)
      simp only [hs]
      exact Ev.now _
def Ints1 (l : List Int) : Prop := ∀ x ∈ l, J64 x
theorem text_from (l : List Int) (hl : Ints1 l) : ∀ m i : Nat, m + i = l.length → ∀ s : D, digs s = true → s.length = i → i ≤ 17 → ∃ t : D, digs t = true ∧ t.length = min 17 l.length ∧ Ev (fun k => dialtonelaw12_text.l0 k l (b s) (i : Int)) (b t) := by
  intro m
  induction m with
  | zero =>
    intro i hi s hd hs h17
    refine ⟨s, hd, by omega, Ev.step (fun k => by rw [dialtonelaw12_text.l0]) ?_⟩
    have h1 : ¬ ((i : Int) < l.length) := by omega
    simp only [h1, if_false]
    exact Ev.now _
  | succ m ih =>
    intro i hi s hd hs h17
    have h1 : ((i : Int) < l.length) := by omega
    have hil : i < l.length := by omega
    by_cases h : i < 17
    · have h2 : ((i : Int) < 17) := by omega
      have h3 : (0 : Int) ≤ i := by omega
      have hr : rd l (i : Int) = l[i] := by unfold rd; simp [hil]
      obtain ⟨r, lr, er⟩ := pick_lt l[i] (hl _ (List.getElem_mem hil)) 10 (by decide)
      have er' : dialtonelaw12_pick.f l[i] 10 = some (r : Int) := er
      have hb : strOfNums [wrap64 (48 + (r : Int)) % 256] = b [dg r] := by
        have := one_dig r
        rw [Int.tmod_eq_emod_of_nonneg (by omega)] at this
        have e : (r : Int) % 10 = r := by omega
        rw [e] at this
        exact this
      obtain ⟨t, ht1, ht2, ht3⟩ := ih (i + 1) (by omega) (s ++ [dg r]) (by rw [digs_append, hd]; simp [digs, dg_isD]) (by simp; omega) (by omega)
      refine ⟨t, ht1, ht2, Ev.step (fun k => by rw [dialtonelaw12_text.l0]) ?_⟩
      have h4 : (b s).size + (b [dg r]).size ≤ 9223372036854775807 := by rw [b_size, b_size]; simp; omega
      simp only [h1, h2, h3, if_true, hr, er', Option.bind_some, hb, h4, b_append, wi i (by omega)]
      exact ht3
    · have h2 : ¬ ((i : Int) < 17) := by omega
      refine ⟨s, hd, by omega, Ev.step (fun k => by rw [dialtonelaw12_text.l0]) ?_⟩
      simp only [h1, h2, if_true, if_false]
      exact Ev.now _
theorem text_ev (l : List Int) (hl : Ints1 l) : ∃ t : D, digs t = true ∧ t.length = min 17 l.length ∧ Ev (fun k => dialtonelaw12_text.f k l) (b t) := by
  obtain ⟨t, h1, h2, h3⟩ := text_from l hl l.length 0 (by omega) [] rfl rfl (by omega)
  exact ⟨t, h1, h2, by simpa [dialtonelaw12_text.f, b] using h3⟩
theorem text_take (l : List Int) (hl : Ints1 l) (n : Nat) (hn : n ≤ 17) (hlen : l.length ≤ 9223372036854775807) : ∃ t : D, digs t = true ∧ t.length ≤ n ∧ (0 : Int) ≤ mn (l.length : Int) n ∧ mn (l.length : Int) n ≤ l.length ∧ Ev (fun k => dialtonelaw12_text.f k (l.take (mn (l.length : Int) n).toNat)) (b t) := by
  obtain ⟨t, h1, h2, h3⟩ := text_ev (l.take (mn (l.length : Int) n).toNat) (fun x hx => hl x (List.mem_of_mem_take hx))
  have hm : 0 ≤ mn (l.length : Int) n ∧ mn (l.length : Int) n ≤ l.length ∧ mn (l.length : Int) n ≤ n := by unfold mn; split <;> omega
  refine ⟨t, h1, ?_, hm.1, hm.2.1, h3⟩
  rw [h2, List.length_take]; omega
end Go.Proofs.YtlmfoblgheepoaaGreatDoor.Pure
end
section
namespace Go.Proofs.YtlmfoblgheepoaaGreatDoor.Pure
open Go.RowKit Go.Proofs.YtlmfoblgheepoaaGreatDoorW.PrintWords Go.Proofs.YtlmfoblgheepoaaGreatDoorW.PrintLast Go.Proofs.YtlmfoblgheepoaaGreatDoorW.PrintMore Go.Proofs.YtlmfoblgheepoaaGreatDoor.Pl
set_option linter.unusedVariables false
set_option linter.unusedSimpArgs false
theorem ents_mem {ph : Int} : ∀ {p : List S29} {i0 : Nat} {e : En}, e ∈ ents ph p i0 ↔ ∃ (i : Nat) (h : i < p.length), (ph ≠ 3 ∧ e = eOld (i0 + i) p[i]) ∨ (ph ≠ 1 ∧ e = eNew (i0 + i) p[i])
  | [], _, _ => by simp [ents]
  | c :: r, i0, e => by
    rw [ents, List.mem_append, ents_mem (p := r)]
    constructor
    · rintro (h | ⟨i, hi, h⟩)
      · refine ⟨0, by simp, ?_⟩
        unfold es at h
        rcases List.mem_append.mp h with h | h
        · split at h
          · rename_i h3; exact .inl ⟨h3, by simpa using List.mem_singleton.mp h⟩
          · cases h
        · split at h
          · rename_i h3; exact .inr ⟨h3, by simpa using List.mem_singleton.mp h⟩
          · cases h
      · refine ⟨i + 1, by simp; omega, ?_⟩
        have e' : i0 + 1 + i = i0 + (i + 1) := by omega
        simpa [e'] using h
    · rintro ⟨i, hi, h⟩
      cases i with
      | zero =>
        left
        unfold es
        rcases h with ⟨h3, h⟩ | ⟨h3, h⟩
        · simp [h3]; left; simpa using h
        · simp [h3]; right; simpa using h
      | succ i =>
        right
        refine ⟨i, by simpa using hi, ?_⟩
        have e' : i0 + 1 + i = i0 + (i + 1) := by omega
        simpa [e'] using h
theorem ents_apt {p : List S29} (hv : vp p = true) (ph : Int) : (ents ph p 0).Pairwise (fun e f => apt e.key f.key = true) := ents_pair (vp_pair hv) (fun c hc => vp_one hv hc)
theorem rE_hit {l : List En} (h : l.Pairwise (fun e f => apt e.key f.key = true)) {e : En} (he : e ∈ l) {d : D} (hp : e.key <+: d) : rE l d = hitS e d := by
  unfold rE
  cases hf : l.find? (fun e => e.key.isPrefixOf d) with
  | none =>
    have := List.find?_eq_none.mp hf e he
    rw [List.isPrefixOf_iff_prefix] at this
    exact absurd hp this
  | some f =>
    have h1 := List.find?_some hf
    have h2 := List.mem_of_find?_eq_some hf
    rw [List.isPrefixOf_iff_prefix] at h1
    rw [pair_hit h he h2 hp h1]
theorem rE_miss {l : List En} {d : D} (hn : ∀ e ∈ l, ¬ e.key <+: d) : rE l d = if l.any (fun e => d.isPrefixOf e.key) = true then (1, 0, 0, 0, 0) else (0, 0, 0, 0, 0) := by
  unfold rE
  cases hf : l.find? (fun e => e.key.isPrefixOf d) with
  | none => rfl
  | some f =>
    have h1 := List.find?_some hf
    have h2 := List.mem_of_find?_eq_some hf
    rw [List.isPrefixOf_iff_prefix] at h1
    exact absurd h1 (hn f h2)
theorem rE_cases (l : List En) (d : D) : (∃ e ∈ l, e.key <+: d) ∨ (∀ e ∈ l, ¬ e.key <+: d) := by
  by_cases h : ∃ e ∈ l, e.key <+: d
  · exact .inl h
  · exact .inr (fun e he hp => h ⟨e, he, hp⟩)
theorem any_pre (l : List En) (d : D) : l.any (fun e => d.isPrefixOf e.key) = true ↔ ∃ e ∈ l, d <+: e.key := by
  rw [List.any_eq_true]
  constructor
  · rintro ⟨e, he, h⟩; exact ⟨e, he, List.isPrefixOf_iff_prefix.mp h⟩
  · rintro ⟨e, he, h⟩; exact ⟨e, he, List.isPrefixOf_iff_prefix.mpr h⟩
theorem hit_more {e : En} {d : D} (h : (d.length : Int) < e.len) : hitS e d = (1, 0, 0, 0, 0) := by unfold hitS; rw [if_pos h]
theorem hit_num {e : En} {d : D} (h : ¬ (d.length : Int) < e.len) : hitS e d = (2, (val (e.st ++ (d.drop e.key.length).take (e.len.toNat - e.key.length)) : Int), e.idx, e.len, 0) := by unfold hitS; rw [if_neg h]
theorem rE_kind {l : List En} (h : l.Pairwise (fun e f => apt e.key f.key = true)) (d : D) :
    (rE l d = (0, 0, 0, 0, 0) ∧ (∀ e ∈ l, ¬ e.key <+: d) ∧ (∀ e ∈ l, ¬ d <+: e.key)) ∨ (rE l d = (1, 0, 0, 0, 0) ∧ ((∃ e ∈ l, e.key <+: d ∧ (d.length : Int) < e.len) ∨ ((∀ e ∈ l, ¬ e.key <+: d) ∧ ∃ e ∈ l, d <+: e.key))) ∨ (∃ e ∈ l, e.key <+: d ∧ ¬ (d.length : Int) < e.len ∧ rE l d = hitS e d) := by
  rcases rE_cases l d with ⟨e, he, hp⟩ | hn
  · have := rE_hit h he hp
    by_cases hl : (d.length : Int) < e.len
    · exact .inr (.inl ⟨by rw [this, hit_more hl], .inl ⟨e, he, hp, hl⟩⟩)
    · exact .inr (.inr ⟨e, he, hp, hl, this⟩)
  · have := rE_miss hn
    by_cases ha : l.any (fun e => d.isPrefixOf e.key) = true
    · exact .inr (.inl ⟨by rw [this, if_pos ha], .inr ⟨hn, (any_pre l d).mp ha⟩⟩)
    · refine .inl ⟨by rw [this, if_neg ha], hn, fun e he hp => ha ((any_pre l d).mpr ⟨e, he, hp⟩)⟩
theorem find_code {p : List S29} (hv : vp p = true) {i : Nat} (hi : i < p.length) {s : D} (h : cn p[i] <+: s) : p.find? (fun c => (cn c).isPrefixOf s) = some p[i] := by
  cases hf : p.find? (fun c => (cn c).isPrefixOf s) with
  | none =>
    have := List.find?_eq_none.mp hf p[i] (List.getElem_mem hi)
    rw [List.isPrefixOf_iff_prefix] at this
    exact absurd h this
  | some c =>
    have h1 := List.find?_some hf
    have h2 := List.mem_of_find?_eq_some hf
    rw [List.isPrefixOf_iff_prefix] at h1
    obtain ⟨j, hj, rfl⟩ := List.mem_iff_getElem.mp h2
    have e1 : eNew (0 + i) p[i] ∈ ents 2 p 0 := ents_mem.mpr ⟨i, hi, .inr ⟨by decide, rfl⟩⟩
    have e2 : eNew (0 + j) p[j] ∈ ents 2 p 0 := ents_mem.mpr ⟨j, hj, .inr ⟨by decide, rfl⟩⟩
    have := pair_hit (ents_apt hv 2) e1 e2 (d := s) h h1
    have hij : ((0 + i : Nat) : Int) = ((0 + j : Nat) : Int) := congrArg En.idx this
    have : i = j := by omega
    subst this; rfl
theorem wS_none {p : List S29} {m : Nat} {ph : Int} (h : p.find? (fun c => (cn c).isPrefixOf (eightK 8 m)) = none) : wS p m ph = ([], 120) := by
  unfold wS wgo; rw [h]
theorem wS_some {p : List S29} {m : Nat} {ph : Int} {c : S29} (h : p.find? (fun c => (cn c).isPrefixOf (eightK 8 m)) = some c) : wS p m ph = wC c (eightK 8 m) ph := by
  unfold wS wgo; rw [h]
theorem wC_cases (c : S29) (s : D) (ph : Int) : (ph ≠ 1 ∧ wC c s ph = (s, 0)) ∨ (ph = 1 ∧ z48 ((s.drop (cn c).length).take (cutOf c - (cn c).length)) = true ∧ wC c s ph = (co c ++ s.drop (cutOf c), 0)) ∨ (ph = 1 ∧ wC c s ph = ([], 120)) := by
  unfold wC
  by_cases h : ph = 1
  · by_cases h2 : z48 ((s.drop (cn c).length).take (cutOf c - (cn c).length)) = true
    · exact .inr (.inl ⟨h, h2, by rw [if_pos h, if_pos h2]⟩)
    · exact .inr (.inr ⟨h, by rw [if_pos h, if_neg h2]⟩)
  · exact .inl ⟨h, by rw [if_neg h]⟩
theorem z48_rep {l : D} (h : z48 l = true) : l = List.replicate l.length 48 := by
  unfold z48 at h
  rw [List.all_eq_true] at h
  exact List.eq_replicate_iff.mpr ⟨rfl, fun x hx => by simpa using h x hx⟩
theorem pre_drop {a s : D} (h : a <+: s) : a ++ s.drop a.length = s := by
  obtain ⟨t, rfl⟩ := h; simp
theorem split3 (s : D) (i j : Nat) (h : i ≤ j) : s.drop i = (s.drop i).take (j - i) ++ s.drop j := by
  have := (List.take_append_drop (j - i) (s.drop i)).symm
  rw [List.drop_drop] at this
  have e : i + (j - i) = j := by omega
  rw [e] at this; exact this
theorem old_split {c : S29} (hc : One c) {s : D} (hs : s.length = 8) (hp : cn c <+: s) (hz : z48 ((s.drop (cn c).length).take (cutOf c - (cn c).length)) = true) : (cn c ++ List.replicate (zs c) 48) ++ s.drop (cutOf c) = s := by
  have a1 := hc.o1; have a2 := hc.o4; have a3 := hc.n1; have a4 := hc.n5; have a5 := hc.l1; have a6 := hc.l7; have a7 := hc.rm
  have hcut : (cn c).length ≤ cutOf c := by unfold cutOf; omega
  have h1 := z48_rep hz
  have hl : ((s.drop (cn c).length).take (cutOf c - (cn c).length)).length = zs c := by rw [List.length_take, List.length_drop]; unfold cutOf zs; omega
  rw [hl] at h1
  have h2 := split3 s _ _ hcut
  rw [h1] at h2
  rw [List.append_assoc, ← h2]
  exact pre_drop hp
structure Form (p : List S29) (m : Nat) (ph : Int) (f : D) (e : En) : Prop where
  mem : ∀ ph', (ph = 1 → ph' ≠ 3) → (ph ≠ 1 → ph' ≠ 1) → e ∈ ents ph' p 0
  pre : e.key <+: f
  len : (f.length : Int) = e.len
  num : e.st ++ f.drop e.key.length = eightK 8 m
  dig : digs f = true
  old : ph = 1 → e.len ≤ 7
  new : ph ≠ 1 → e.len = 8 ∧ f = eightK 8 m
  idx : e.idx = (p.findIdx (fun c => (cn c).isPrefixOf (eightK 8 m)) : Int)
  i0 : e.idx < p.length
theorem digs_drop {s : D} (h : digs s = true) (n : Nat) : digs (s.drop n) = true := by
  unfold digs at h ⊢; rw [List.all_eq_true] at h ⊢; exact fun x hx => h x (List.mem_of_mem_drop hx)
theorem digs_take {s : D} (h : digs s = true) (n : Nat) : digs (s.take n) = true := by
  unfold digs at h ⊢; rw [List.all_eq_true] at h ⊢; exact fun x hx => h x (List.mem_of_mem_take hx)
theorem wS_form {p : List S29} (hv : vp p = true) (m : Nat) (ph : Int) : wS p m ph = ([], 120) ∨ ∃ f e, wS p m ph = (f, 0) ∧ Form p m ph f e := by
  cases hf : p.find? (fun c => (cn c).isPrefixOf (eightK 8 m)) with
  | none => exact .inl (wS_none hf)
  | some c =>
    have h1 := List.find?_some hf
    have hlt : p.findIdx (fun c => (cn c).isPrefixOf (eightK 8 m)) < p.length := by
      rw [List.findIdx_lt_length]; exact ⟨c, List.mem_of_find?_eq_some hf, h1⟩
    have hpi := List.findIdx_getElem (w := hlt)
    rw [List.isPrefixOf_iff_prefix] at hpi
    have hfi := find_code hv hlt hpi
    rw [hf] at hfi
    have hci := Option.some.inj hfi
    rw [wS_some hf]
    have hc := vp_one hv (List.mem_of_find?_eq_some hf)
    rw [List.isPrefixOf_iff_prefix] at h1
    have hs8 : (eightK 8 m).length = 8 := eightK_length 8 m
    rcases wC_cases c (eightK 8 m) ph with ⟨hph, hw⟩ | ⟨hph, hz, hw⟩ | ⟨_, hw⟩
    · right
      refine ⟨_, eNew (0 + p.findIdx (fun c => (cn c).isPrefixOf (eightK 8 m))) c, hw, ⟨fun ph' _ h => ents_mem.mpr ⟨_, hlt, .inr ⟨h hph, by rw [← hci]⟩⟩, h1, by rw [hs8]; rfl, pre_drop h1, eightK_digs 8 m, fun h => absurd h hph, fun _ => ⟨rfl, rfl⟩, by simp [eNew], by simp only [eNew]; omega⟩⟩
    · right
      have a1 := hc.o1; have a2 := hc.o4; have a3 := hc.n1; have a4 := hc.n5; have a5 := hc.l1; have a6 := hc.l7; have a7 := hc.rm
      refine ⟨_, eOld (0 + p.findIdx (fun c => (cn c).isPrefixOf (eightK 8 m))) c, hw, ⟨fun ph' h _ => ents_mem.mpr ⟨_, hlt, .inl ⟨h hph, by rw [← hci]⟩⟩, List.prefix_append _ _, ?_, ?_, ?_, fun _ => hc.l7, fun h => absurd hph h, by simp [eOld], by simp only [eOld]; omega⟩⟩
      · rw [List.length_append, List.length_drop, hs8]; simp only [eOld, cutOf]; omega
      · simp only [eOld, List.drop_left]
        exact old_split hc hs8 h1 hz
      · rw [digs_append, hc.od, digs_drop (eightK_digs 8 m)]; rfl
    · exact .inl hw
end Go.Proofs.YtlmfoblgheepoaaGreatDoor.Pure
end
section
namespace Go.Proofs.YtlmfoblgheepoaaGreatDoor.Pure
open Go.RowKit Go.Proofs.YtlmfoblgheepoaaGreatDoorW.PrintWords Go.Proofs.YtlmfoblgheepoaaGreatDoorW.PrintLast Go.Proofs.YtlmfoblgheepoaaGreatDoorW.PrintMore Go.Proofs.YtlmfoblgheepoaaGreatDoor.Pl
set_option linter.unusedVariables false
set_option linter.unusedSimpArgs false
theorem wS_first {p : List S29} (hv : vp p = true) (m : Nat) (ph : Int) : digs (wS p m ph).1 = true ∧ (wS p m ph).1.length ≤ 8 := by
  rcases wS_form hv m ph with hW | ⟨f, e, hW, hF⟩
  · rw [hW]; exact ⟨rfl, by decide⟩
  · rw [hW]
    refine ⟨hF.dig, ?_⟩
    have := hF.len
    by_cases h : ph = 1
    · have := hF.old h; show f.length ≤ 8; omega
    · have := (hF.new h).1; show f.length ≤ 8; omega
end Go.Proofs.YtlmfoblgheepoaaGreatDoor.Pure
end
section
namespace Go.Proofs.YtlmfoblgheepoaaGreatDoor.Pure
open Go.RowKit Go.Proofs.YtlmfoblgheepoaaGreatDoorW.PrintWords Go.Proofs.YtlmfoblgheepoaaGreatDoorW.PrintLast Go.Proofs.YtlmfoblgheepoaaGreatDoorW.PrintMore Go.Proofs.YtlmfoblgheepoaaGreatDoor.Pl
set_option linter.unusedVariables false
set_option linter.unusedSimpArgs false
structure Fits (p : List S29) : Prop where
  len : p.length ≤ 1000
  sm : smallP p
def inN (n : Int) : Bool := decide (0 ≤ n) && decide (n ≤ 99999999)
def wAll (p : List S29) (n ph : Int) : D × Int := if (vp p && (okPh ph && inN n)) = true then wS p n.toNat ph else ([], 120)
theorem write_all (p : List S29) (hf : Fits p) (n ph : Int) : Ev (fun k => plan_Write.f k p n ph) (b (wAll p n ph).1, (wAll p n ph).2) := by
  have hl := hf.len
  have bad : Ev (fun k => plan_Write.j0 k p n ph true) (b [], 120) := by
    refine Ev.step (fun k => by rw [plan_Write.j0]) ?_
    simp only [if_true]
    exact Ev.now _
  unfold wAll
  cases hv : vp p with
  | false =>
    unfold plan_Write.f
    refine Ev.bind (valid_ev p (by omega) hf.sm) ?_
    simp only [hv, Bool.false_eq_true, if_false, Bool.false_and]
    exact bad
  | true =>
    cases hp : okPh ph with
    | false =>
      unfold plan_Write.f
      refine Ev.bind (valid_ev p (by omega) hf.sm) ?_
      simp only [hv, if_true, isPhase_eq, hp, Option.bind_some, Bool.false_eq_true, if_false, Bool.false_and, Bool.and_false]
      exact bad
    | true =>
      cases hn : inN n with
      | false =>
        unfold plan_Write.f
        refine Ev.bind (valid_ev p (by omega) hf.sm) ?_
        have hw : plan_isWithin.f n 0 99999999 = some false := by rw [isWithin_eq]; exact congrArg some hn
        simp only [hv, if_true, isPhase_eq, hp, Option.bind_some, hw, Bool.not_false, Bool.and_false, Bool.false_eq_true, if_false]
        exact bad
      | true =>
        unfold inN at hn
        simp only [Bool.and_eq_true, decide_eq_true_eq] at hn
        have e : n = (n.toNat : Int) := by omega
        have := write_ev p hv n.toNat (by omega) ph hp
        rw [← e] at this
        simpa using this
def fidx (s : D) : List S29 → Nat → Int
  | [], _ => -1
  | c :: r, i => if (cn c).isPrefixOf s = true then (i : Int) else fidx s r (i + 1)
theorem code_from (p : List S29) (hl : p.length ≤ 1000) (m : Nat) (hm : m ≤ 99999999) : ∀ r i : Nat, r + i = p.length → Ev (fun k => dialtoneref12_Code.l0 k p (m : Int) (i : Int)) (fidx (eightK 8 m) (p.drop i) i)
  | 0, i, h => by
    refine Ev.step (fun k => by rw [dialtoneref12_Code.l0]) ?_
    have h1 : ¬ ((i : Int) < p.length) := by omega
    simp only [h1, if_false]
    rw [List.drop_eq_nil_of_le (by omega)]
    exact Ev.now _
  | r + 1, i, h => by
    refine Ev.step (fun k => by rw [dialtoneref12_Code.l0]) ?_
    have h1 : ((i : Int) < p.length) := by omega
    have h2 : (0 : Int) ≤ i := by omega
    have hi : i < p.length := by omega
    simp only [h1, h2, if_true, rd29 p i hi, wi i (by omega), drop_at p i hi]
    refine Ev.bind (reight_ev m hm) ?_
    simp only [begins_eq, Option.bind_some]
    unfold fidx
    show Ev (fun k => if (cn p[i]).isPrefixOf (eightK 8 m) = true then _ else _) _
    cases (cn p[i]).isPrefixOf (eightK 8 m) with
    | true => simp only [if_true]; exact Ev.now _
    | false => simp only [Bool.false_eq_true, if_false]; exact code_from p hl m hm r (i + 1) (by omega)
theorem fidx_find (s : D) : ∀ (l : List S29) (i : Nat), (fidx s l i = -1 ∧ l.find? (fun c => (cn c).isPrefixOf s) = none) ∨ ∃ (j : Nat) (h : j < l.length), fidx s l i = ((i + j : Nat) : Int) ∧ l.find? (fun c => (cn c).isPrefixOf s) = some l[j]
  | [], i => .inl ⟨rfl, rfl⟩
  | c :: r, i => by
    unfold fidx
    rw [List.find?_cons]
    cases hc : (cn c).isPrefixOf s with
    | true => exact .inr ⟨0, by simp, by simp, by simp⟩
    | false =>
      simp only [Bool.false_eq_true, if_false]
      rcases fidx_find s r (i + 1) with h | ⟨j, hj, h1, h2⟩
      · exact .inl h
      · exact .inr ⟨j + 1, by simp; omega, by rw [h1]; congr 1; omega, by simpa using h2⟩
theorem old_from (c : S29) (hc : One c) (s : D) (hs : s.length = 8) : ∀ r i : Nat, r + i = cutOf c → (cn c).length ≤ i →
    Ev (fun k => dialtoneref12_Old.l0 k (b s) (cutOf c : Int) (i : Int) c.f0 c.f1 c.f2) (if z48 ((s.drop i).take (cutOf c - i)) = true then (b (co c ++ s.drop (cutOf c)), true) else (b [], false))
  | 0, i, h, hi => by
    have a1 := hc.o1; have a2 := hc.o4; have a3 := hc.n1; have a4 := hc.n5; have a5 := hc.l1; have a6 := hc.l7; have a7 := hc.rm
    have e0 : c.f0.size = (co c).length := Lib.size_eq _
    have hcc : cutOf c ≤ 8 := by unfold cutOf; omega
    refine Ev.step (fun k => by rw [dialtoneref12_Old.l0]) ?_
    have h1 : ¬ ((i : Int) < (cutOf c : Int)) := by omega
    have h2 : (0 : Int) ≤ (cutOf c : Int) := by omega
    have h3 : (cutOf c : Int) ≤ (b s).size := by rw [b_size]; omega
    have e8 : ((b s).extract (cutOf c) (b s).size).data.toList = s.drop (cutOf c) := by
      rw [Lib.extract_data, b_data, b_size, List.take_of_length_le (by rw [List.length_drop]; omega)]
    have h4 : c.f0.size + ((b s).extract (cutOf c) (b s).size).size ≤ 9223372036854775807 := by rw [Lib.size_eq ((b s).extract _ _), e8, List.length_drop]; omega
    have hz : z48 ((s.drop i).take (cutOf c - i)) = true := by
      have : cutOf c - i = 0 := by omega
      rw [this]; rfl
    have e9 : c.f0 ++ (b s).extract (cutOf c) (b s).size = b (co c ++ s.drop (cutOf c)) := by
      apply ba_ext; rw [b_data]; simp only [ByteArray.data_append, Array.toList_append, e8]; rfl
    simp only [h1, if_false, h2, h3, if_true, Int.toNat_natCast, h4, hz, e9]
    exact Ev.now _
  | r + 1, i, h, hi => by
    have a1 := hc.o1; have a2 := hc.o4; have a3 := hc.n1; have a4 := hc.n5; have a5 := hc.l1; have a6 := hc.l7; have a7 := hc.rm
    have hcc : cutOf c ≤ 8 := by unfold cutOf; omega
    refine Ev.step (fun k => by rw [dialtoneref12_Old.l0]) ?_
    have h1 : ((i : Int) < (cutOf c : Int)) := by omega
    have h2 : (0 : Int) ≤ i := by omega
    have h3 : (i : Int) < (b s).size := by rw [b_size]; omega
    have hl : i < s.length := by omega
    have hb : bt (b s) (i : Int) = (s[i].toNat : Int) := by
      have := bt_get (b s) i (by rw [b_data]; exact hl)
      simpa [b_data] using this
    have hd : (s.drop i).take (cutOf c - i) = s[i] :: (s.drop (i + 1)).take (cutOf c - (i + 1)) := by
      rw [List.drop_eq_getElem_cons hl]
      have : cutOf c - i = (cutOf c - (i + 1)) + 1 := by omega
      rw [this, List.take_succ_cons]
    simp only [h1, h2, h3, if_true, hb, wi i (by omega), hd]
    have hz : z48 (s[i] :: (s.drop (i + 1)).take (cutOf c - (i + 1))) = (decide ((s[i].toNat : Int) = 48) && z48 ((s.drop (i + 1)).take (cutOf c - (i + 1)))) := by
      unfold z48
      rw [List.all_cons]
      congr 1
      rw [Bool.eq_iff_iff, beq_iff_eq, decide_eq_true_eq, ← UInt8.toNat_inj]
      simp
      omega
    rw [hz]
    by_cases h48 : (s[i].toNat : Int) = 48
    · simp only [h48, if_true, decide_true, Bool.true_and]
      exact old_from c hc s hs r (i + 1) (by omega) (by omega)
    · simp only [h48, if_false, decide_false, Bool.false_and, Bool.false_eq_true]
      exact Ev.now _
theorem rwrite_all (p : List S29) (hf : Fits p) (n ph : Int) : Ev (fun k => dialtoneref12_Write.f k p n ph) (b (wAll p n ph).1, (wAll p n ph).2) := by
  have hl := hf.len
  have bad : Ev (fun k => dialtoneref12_Write.j0 k p n ph true) (b [], 120) := by
    refine Ev.step (fun k => by rw [dialtoneref12_Write.j0]) ?_
    simp only [if_true]
    exact Ev.now _
  unfold wAll dialtoneref12_Write.f
  refine Ev.bind (rvalid_ev p (by omega) hf.sm) ?_
  cases hv : vp p with
  | false =>
    simp only [Bool.false_eq_true, if_false, Bool.false_and]
    exact bad
  | true =>
    simp only [if_true, rphase_eq, Option.bind_some, Bool.true_and]
    cases hp : okPh ph with
    | false =>
      simp only [Bool.not_false, Bool.false_and, Bool.false_eq_true, if_false]
      exact bad
    | true =>
      simp only [Bool.not_true, Bool.true_and]
      refine Ev.step (fun k => by rw [dialtoneref12_Write.j0]) ?_
      simp only [Bool.false_eq_true, if_false]
      have minus : Ev (fun k => dialtoneref12_Code.j0 k p n true) (-1) := by
        refine Ev.step (fun k => by rw [dialtoneref12_Code.j0]) ?_
        simp only [if_true]
        exact Ev.now _
      cases hn : inN n with
      | false =>
        have hc : Ev (fun k => dialtoneref12_Code.f k p n) (-1) := by
          unfold dialtoneref12_Code.f
          by_cases h0 : n < 0
          · simp only [h0, if_true]; exact minus
          · have h1 : decide (n > 99999999) = true := by
              unfold inN at hn
              rw [decide_eq_true_eq]
              simp only [Bool.and_eq_false_iff, decide_eq_false_iff_not] at hn
              omega
            simp only [h0, if_false, h1]; exact minus
        refine Ev.bind hc ?_
        have h1 : (-1 : Int) < 0 := by decide
        simp only [h1, if_true, Bool.false_eq_true, if_false]
        exact Ev.now _
      | true =>
        simp only [if_true]
        unfold inN at hn
        simp only [Bool.and_eq_true, decide_eq_true_eq] at hn
        obtain ⟨m, hm⟩ : ∃ m : Nat, n.toNat = m := ⟨_, rfl⟩
        have e : n = (m : Int) := by omega
        subst e
        have hm9 : m ≤ 99999999 := by omega
        rw [hm]
        have hc : Ev (fun k => dialtoneref12_Code.f k p (m : Int)) (fidx (eightK 8 m) p 0) := by
          unfold dialtoneref12_Code.f
          have h0 : ¬ (m : Int) < 0 := by omega
          have h1 : decide ((m : Int) > 99999999) = false := by rw [decide_eq_false_iff_not]; omega
          simp only [h0, if_false, h1]
          refine Ev.step (fun k => by rw [dialtoneref12_Code.j0]) ?_
          simp only [Bool.false_eq_true, if_false]
          have := code_from p hl m hm9 p.length 0 (by omega)
          simpa using this
        refine Ev.bind hc ?_
        rcases fidx_find (eightK 8 m) p 0 with ⟨h1, h2⟩ | ⟨j, hj, h1, h2⟩
        · rw [h1, wS_none h2]
          have h3 : (-1 : Int) < 0 := by decide
          simp only [h3, if_true]
          exact Ev.now _
        · rw [h1, wS_some h2]
          have h3 : ¬ ((0 + j : Nat) : Int) < 0 := by omega
          have h4 : (0 : Int) ≤ ((0 + j : Nat) : Int) := by omega
          have h5 : ((0 + j : Nat) : Int) < p.length := by omega
          have h6 : rd_T29 p ((0 + j : Nat) : Int) = p[j] := by rw [Nat.zero_add]; exact rd29 p j hj
          simp only [h3, if_false, h4, h5, if_true, h6]
          have hc := vp_one hv (List.getElem_mem hj)
          generalize p[j] = c at *
          have a1 := hc.o1; have a2 := hc.o4; have a3 := hc.n1; have a4 := hc.n5; have a5 := hc.l1; have a6 := hc.l7; have a7 := hc.rm
          have e0 : c.f0.size = (co c).length := Lib.size_eq _
          have e1 : c.f1.size = (cn c).length := Lib.size_eq _
          by_cases hph : ph = 1
          · have hcut : wrap64 (8 - wrap64 (c.f2 - ((co c).length : Int))) = (cutOf c : Int) := by unfold cutOf; rw [w64 (n := c.f2 - ((co c).length : Int)) (by omega) (by omega), w64 (by omega) (by omega)]; omega
            have hcl : (cn c).length ≤ cutOf c := by unfold cutOf; omega
            have ho : Ev (fun k => dialtoneref12_Old.f k c.f0 c.f1 c.f2 (m : Int)) (if z48 (((eightK 8 m).drop (cn c).length).take (cutOf c - (cn c).length)) = true then (b (co c ++ (eightK 8 m).drop (cutOf c)), true) else (b [], false)) := by
              unfold dialtoneref12_Old.f
              refine Ev.bind (reight_ev m hm9) ?_
              simp only [dialtoneref12_local.f, Option.bind_some, e0, e1, hcut]
              exact old_from c hc _ (eightK_length 8 m) (cutOf c - (cn c).length) (cn c).length (by omega) (Nat.le_refl _)
            simp only [hph, if_true]
            refine Ev.bind ho ?_
            unfold wC
            rw [if_pos rfl]
            cases z48 (((eightK 8 m).drop (cn c).length).take (cutOf c - (cn c).length)) with
            | true => simp only [if_true]; exact Ev.now _
            | false => simp only [Bool.false_eq_true, if_false]; exact Ev.now _
          · simp only [hph, if_false]
            refine Ev.bind (reight_ev m hm9) ?_
            unfold wC
            rw [if_neg hph]
            exact Ev.now _
def gAll (p : List S29) (i ph : Int) : Int × Int × Int := if (vp p && (decide (0 ≤ i ∧ i < p.length) && okPh ph)) = true then ((lo (rd_T29 p i) : Int), (hi (rd_T29 p i) ph : Int), 0) else (0, 0, 120)
theorem range_all (p : List S29) (hf : Fits p) (i ph : Int) : Ev (fun k => plan_Range.f k p i ph) (gAll p i ph) := by
  have hl := hf.len
  have bad : Ev (fun k => plan_Range.j0 k p i ph true) (0, 0, 120) := by
    refine Ev.step (fun k => by rw [plan_Range.j0]) ?_
    simp only [if_true]
    exact Ev.now _
  have w1 : wrap64 ((p.length : Int) - 1) = (p.length : Int) - 1 := w64 (by omega) (by omega)
  unfold gAll
  cases hv : vp p with
  | false =>
    unfold plan_Range.f
    refine Ev.bind (valid_ev p (by omega) hf.sm) ?_
    simp only [hv, Bool.false_eq_true, if_false, Bool.false_and]
    exact bad
  | true =>
    by_cases hi' : 0 ≤ i ∧ i < p.length
    · have e : i = (i.toNat : Int) := by omega
      have hin : i.toNat < p.length := by omega
      have hr : rd_T29 p i = p[i.toNat] := by have h := rd29 p i.toNat hin; rwa [← e] at h
      cases hp : okPh ph with
      | true =>
        have := range_ev p hv i.toNat hin ph hp
        rw [← e] at this
        simp only [hi', and_self, decide_true, Bool.and_self, if_true, hr]
        exact this
      | false =>
        unfold plan_Range.f
        refine Ev.bind (valid_ev p (by omega) hf.sm) ?_
        have hw : plan_isWithin.f i 0 ((p.length : Int) - 1) = some true := by rw [isWithin_eq]; simp; omega
        simp only [hv, if_true, w1, hw, Option.bind_some, isPhase_eq, hp, Bool.not_false, Bool.and_false, Bool.false_eq_true, if_false]
        exact bad
    · unfold plan_Range.f
      refine Ev.bind (valid_ev p (by omega) hf.sm) ?_
      have hw : plan_isWithin.f i 0 ((p.length : Int) - 1) = some false := by rw [isWithin_eq]; simp; omega
      simp only [hv, if_true, w1, hw, Option.bind_some, hi', decide_false, Bool.false_and, Bool.and_false, Bool.false_eq_true, if_false]
      exact bad
theorem rrange_all (p : List S29) (hf : Fits p) (i ph : Int) : Ev (fun k => dialtoneref12_Range.f k p i ph) (gAll p i ph) := by
  have hl := hf.len
  have bad : Ev (fun k => dialtoneref12_Range.j0 k p i ph true) (0, 0, 120) := by
    refine Ev.step (fun k => by rw [dialtoneref12_Range.j0]) ?_
    simp only [if_true]
    exact Ev.now _
  unfold gAll
  cases hv : vp p with
  | false =>
    unfold dialtoneref12_Range.f
    refine Ev.bind (rvalid_ev p (by omega) hf.sm) ?_
    simp only [hv, Bool.false_eq_true, if_false, Bool.false_and]
    exact bad
  | true =>
    by_cases hi' : 0 ≤ i ∧ i < p.length
    · have e : i = (i.toNat : Int) := by omega
      have hin : i.toNat < p.length := by omega
      have hr : rd_T29 p i = p[i.toNat] := by have h := rd29 p i.toNat hin; rwa [← e] at h
      cases hp : okPh ph with
      | true =>
        have := rrange_ev p hv i.toNat hin ph hp
        rw [← e] at this
        simp only [hi', and_self, decide_true, Bool.and_self, if_true, hr]
        exact this
      | false =>
        unfold dialtoneref12_Range.f
        refine Ev.bind (rvalid_ev p (by omega) hf.sm) ?_
        have h1 : ¬ i < 0 := by omega
        have h2 : ¬ i ≥ p.length := by omega
        simp only [hv, if_true, h1, h2, if_false, Option.bind_some, rphase_eq, hp, Bool.not_false, Bool.and_false, Bool.false_eq_true]
        exact bad
    · unfold dialtoneref12_Range.f
      refine Ev.bind (rvalid_ev p (by omega) hf.sm) ?_
      simp only [hv, if_true, hi', decide_false, Bool.false_and, Bool.and_false, Bool.false_eq_true, if_false]
      by_cases h1 : i < 0
      · simp only [h1, if_true]; exact bad
      · have h2 : i ≥ p.length := by omega
        simp only [h1, if_false, h2, if_true]; exact bad
end Go.Proofs.YtlmfoblgheepoaaGreatDoor.Pure
end
section
namespace Go.Proofs.YtlmfoblgheepoaaGreatDoor.Pure
open Go.RowKit Go.Proofs.YtlmfoblgheepoaaGreatDoorW.PrintWords Go.Proofs.YtlmfoblgheepoaaGreatDoorW.PrintLast Go.Proofs.YtlmfoblgheepoaaGreatDoorW.PrintMore Go.Proofs.YtlmfoblgheepoaaGreatDoor.Pl
set_option linter.unusedVariables false
set_option linter.unusedSimpArgs false
def rAll (p : List S29) (d : D) (ph : Int) : Int × Int × Int × Int × Int := if (vp p && (digs d && (decide (d.length ≤ 16) && okPh ph))) = true then rS p d ph else (0, 0, 0, 0, 120)
theorem read_all (p : List S29) (hf : Fits p) (d : D) (hd : d.length ≤ 1000) (ph : Int) : Ev (fun k => plan_Read.f k p (b d) ph) (rAll p d ph) := by
  have hl := hf.len
  unfold plan_Read.f rAll
  refine Ev.bind (valid_ev p (by omega) hf.sm) ?_
  cases hv : vp p with
  | false =>
    simp only [Bool.false_eq_true, if_false, Bool.false_and]
    exact Ev.now _
  | true =>
    simp only [if_true, isDigits_eq (b d) (by rw [b_size]; omega), b_data, Option.bind_some, Bool.true_and]
    cases hg : digs d with
    | false =>
      simp only [Bool.false_eq_true, if_false, Bool.false_and]
      exact Ev.now _
    | true =>
      simp only [if_true, b_size, Bool.true_and]
      by_cases h16 : d.length ≤ 16
      · have h1 : ¬ (16 : Int) < (d.length : Int) := by omega
        simp only [h1, if_false, isPhase_eq, Option.bind_some, h16, decide_true, Bool.true_and]
        cases okPh ph with
        | false => simp only [Bool.false_eq_true, if_false]; exact Ev.now _
        | true => simp only [if_true, rest_eq p hv ph d hg h16]; exact Ev.now _
      · have h1 : (16 : Int) < (d.length : Int) := by omega
        simp only [h1, if_true, h16, decide_false, Bool.false_and, Bool.false_eq_true, if_false]
        exact Ev.now _
def rgo (d : D) : List En → Bool → Int × Int × Int × Int × Int
  | [], more => if more = true then (1, 0, 0, 0, 0) else (0, 0, 0, 0, 0)
  | e :: r, more => if e.key.isPrefixOf d = true ∧ e.len ≤ (d.length : Int) then hitS e d else rgo d r (more || (d.isPrefixOf e.key || e.key.isPrefixOf d))
theorem rgo_hit (d : D) : ∀ (l : List En) (more : Bool), l.Pairwise (fun e f => apt e.key f.key = true) → ∀ e ∈ l, e.key <+: d → e.len ≤ (d.length : Int) → rgo d l more = hitS e d
  | [], _, _, e, he, _, _ => by cases he
  | x :: l, more, h, e, he, hp, hl => by
    unfold rgo
    by_cases hx : x.key.isPrefixOf d = true ∧ x.len ≤ (d.length : Int)
    · rw [if_pos hx]
      have := pair_hit h (List.mem_cons_self) he (List.isPrefixOf_iff_prefix.mp hx.1) hp
      rw [this]
    · rw [if_neg hx]
      rcases List.mem_cons.mp he with rfl | he'
      · exact absurd ⟨List.isPrefixOf_iff_prefix.mpr hp, hl⟩ hx
      · cases h with
        | cons h1 h2 => exact rgo_hit d l _ h2 e he' hp hl
theorem rgo_miss (d : D) : ∀ (l : List En) (more : Bool), (∀ e ∈ l, ¬ (e.key <+: d ∧ e.len ≤ (d.length : Int))) → rgo d l more = if (more || l.any (fun e => d.isPrefixOf e.key || e.key.isPrefixOf d)) = true then (1, 0, 0, 0, 0) else (0, 0, 0, 0, 0)
  | [], more, _ => by unfold rgo; simp
  | x :: l, more, h => by
    unfold rgo
    have hx : ¬ (x.key.isPrefixOf d = true ∧ x.len ≤ (d.length : Int)) := fun hh => h x List.mem_cons_self ⟨List.isPrefixOf_iff_prefix.mp hh.1, hh.2⟩
    rw [if_neg hx, rgo_miss d l _ (fun e he => h e (List.mem_cons_of_mem _ he)), List.any_cons, Bool.or_assoc]
theorem rgo_rE (d : D) (l : List En) (h : l.Pairwise (fun e f => apt e.key f.key = true)) : rgo d l false = rE l d := by
  rcases rE_kind h d with ⟨h0, h1, h2⟩ | ⟨h0, h1⟩ | ⟨e, he, hp, hl, h0⟩
  · rw [h0, rgo_miss d l false (fun e he hh => h1 e he hh.1), if_neg]
    rw [Bool.false_or, List.any_eq_true]
    rintro ⟨e, he, hh⟩
    rw [Bool.or_eq_true, List.isPrefixOf_iff_prefix, List.isPrefixOf_iff_prefix] at hh
    rcases hh with hh | hh
    · exact h2 e he hh
    · exact h1 e he hh
  · have hn : ∀ e ∈ l, ¬ (e.key <+: d ∧ e.len ≤ (d.length : Int)) := by
      rcases h1 with ⟨e, he, hp, hl⟩ | ⟨hn, _⟩
      · rintro f hf ⟨hq, hr⟩
        have := pair_hit h he hf hp hq
        rw [← this] at hr
        omega
      · rintro f hf ⟨hq, _⟩; exact hn f hf hq
    rw [h0, rgo_miss d l false hn, if_pos]
    rw [Bool.false_or, List.any_eq_true]
    rcases h1 with ⟨e, he, hp, hl⟩ | ⟨hn, e, he, hp⟩
    · exact ⟨e, he, by rw [Bool.or_eq_true]; exact .inr (List.isPrefixOf_iff_prefix.mpr hp)⟩
    · exact ⟨e, he, by rw [Bool.or_eq_true]; exact .inl (List.isPrefixOf_iff_prefix.mpr hp)⟩
  · rw [rgo_hit d l false h e he hp (by omega), h0]
theorem val_rep (n : Nat) : val (List.replicate n 48) = 0 := by
  rw [← eightK_zero, val_eightK]; simp
theorem digs_get {d : D} (hd : digs d = true) {i : Nat} (hi : i < d.length) : isD d[i] = true := List.all_eq_true.mp hd _ (List.getElem_mem hi)
theorem l2_from (c : S29) (hc : One c) (d : D) (hd : digs d = true) (hl : c.f2 ≤ (d.length : Int)) (idx : Int) (st : D) (hst : digs st = true) (hst8 : (st.length : Int) + (c.f2 - (co c).length) = 8) :
    ∀ r j : Nat, (r : Int) + ((co c).length + j) = c.f2 → Ev (fun k => dialtoneref12_Read.l2 k (b d) idx ((val (st ++ (d.drop (co c).length).take j) : Nat) : Int) (((co c).length + j : Nat) : Int) c.f0 c.f1 c.f2)
      (2, ((val (st ++ (d.drop (co c).length).take (c.f2.toNat - (co c).length)) : Nat) : Int), idx, c.f2, 0)
  | 0, j, h => by
    refine Ev.step (fun k => by rw [dialtoneref12_Read.l2]) ?_
    have h1 : ¬ ((((co c).length + j : Nat) : Int) < c.f2) := by omega
    have e : c.f2.toNat - (co c).length = j := by omega
    simp only [h1, if_false, e]
    exact Ev.now _
  | r + 1, j, h => by
    have a1 := hc.o1; have a2 := hc.o4; have a5 := hc.l1; have a6 := hc.l7
    refine Ev.step (fun k => by rw [dialtoneref12_Read.l2]) ?_
    have h1 : ((((co c).length + j : Nat) : Int) < c.f2) := by omega
    have h2 : (0 : Int) ≤ (((co c).length + j : Nat) : Int) := by omega
    have h3 : (((co c).length + j : Nat) : Int) < (b d).size := by rw [b_size]; omega
    have hi : (co c).length + j < d.length := by omega
    have hb : bt (b d) (((co c).length + j : Nat) : Int) = (d[(co c).length + j].toNat : Int) := by
      have := bt_get (b d) ((co c).length + j) (by rw [b_data]; exact hi)
      simpa only [b_data] using this
    have hz := (isD_iff _).mp (digs_get hd hi)
    have hdl : j < (d.drop (co c).length).length := by rw [List.length_drop]; omega
    have htk : (d.drop (co c).length).take (j + 1) = (d.drop (co c).length).take j ++ [d[(co c).length + j]] := by
      rw [← take_at _ j hdl, List.getElem_drop]
    have hv : val (st ++ (d.drop (co c).length).take j) < 10 ^ 8 := by
      have h4 : digs (st ++ (d.drop (co c).length).take j) = true := by rw [digs_append, hst, digs_take (digs_drop hd _)]; rfl
      have h5 := val_lt _ h4
      have h6 : (st ++ (d.drop (co c).length).take j).length ≤ 8 := by rw [List.length_append, List.length_take, List.length_drop]; omega
      exact Nat.lt_of_lt_of_le h5 (Nat.pow_le_pow_right (by decide) h6)
    have hv' : val (st ++ (d.drop (co c).length).take j) < 100000000 := hv
    have hnew : wrap64 (wrap64 (10 * ((val (st ++ (d.drop (co c).length).take j) : Nat) : Int)) + ((d[(co c).length + j].toNat : Int) - 48) % 256) = ((val (st ++ (d.drop (co c).length).take (j + 1)) : Nat) : Int) := by
      rw [htk, ← List.append_assoc, val_append (st ++ (d.drop (co c).length).take j) [d[(co c).length + j]], val_one]
      generalize val (st ++ (d.drop (co c).length).take j) = v at hv' ⊢
      generalize d[(co c).length + j].toNat = z at hz ⊢
      clear hv
      rw [w64 (n := 10 * _) (by omega) (by omega), w64 (by omega) (by omega)]
      simp only [List.length_cons, List.length_nil]
      omega
    have hw : wrap64 ((((co c).length + j : Nat) : Int) + 1) = (((co c).length + (j + 1) : Nat) : Int) := by rw [w64 (by omega) (by omega)]; omega
    simp only [h1, h2, h3, if_true, hb, hnew, hw]
    exact l2_from c hc d hd hl idx st hst hst8 r (j + 1) (by omega)
theorem l1_from (c : S29) (hc : One c) (d : D) (hd : digs d = true) (hl : c.f2 ≤ (d.length : Int)) (idx : Int) :
    ∀ r j : Nat, r + j = zs c → Ev (fun k => dialtoneref12_Read.l1 k (b d) idx ((val (cn c) * 10 ^ j : Nat) : Int) (j : Int) c.f0 c.f1 c.f2)
      (2, ((val (cn c ++ List.replicate (zs c) 48 ++ (d.drop (co c).length).take (c.f2.toNat - (co c).length)) : Nat) : Int), idx, c.f2, 0)
  | r, j, h => by
    have a1 := hc.o1; have a2 := hc.o4; have a3 := hc.n1; have a4 := hc.n5; have a5 := hc.l1; have a6 := hc.l7; have a7 := hc.rm
    have e0 : c.f0.size = (co c).length := Lib.size_eq _
    have e1 : c.f1.size = (cn c).length := Lib.size_eq _
    have hz : wrap64 (wrap64 (8 - ((cn c).length : Int)) - wrap64 (c.f2 - ((co c).length : Int))) = (zs c : Int) := by
      rw [w64 (n := 8 - ((cn c).length : Int)) (by omega) (by omega), w64 (n := c.f2 - ((co c).length : Int)) (by omega) (by omega), w64 (by omega) (by omega)]; unfold zs; omega
    refine Ev.step (fun k => by rw [dialtoneref12_Read.l1]) ?_
    simp only [dialtoneref12_local.f, Option.bind_some, e0, e1, hz]
    cases r with
    | zero =>
      have h1 : ¬ (j : Int) < (zs c : Int) := by omega
      have hj : j = zs c := by omega
      simp only [h1, if_false]
      have hst : digs (cn c ++ List.replicate (zs c) 48) = true := by rw [digs_append, hc.nd, digs_rep]; rfl
      have hst8 : ((cn c ++ List.replicate (zs c) 48).length : Int) + (c.f2 - (co c).length) = 8 := by rw [List.length_append, List.length_replicate]; unfold zs; omega
      have := l2_from c hc d hd hl idx _ hst hst8 (c.f2 - (co c).length).toNat 0 (by omega)
      have ev : val (cn c ++ List.replicate (zs c) 48 ++ (d.drop (co c).length).take 0) = val (cn c) * 10 ^ j := by
        rw [List.take_zero, List.append_nil, val_append, val_rep, List.length_replicate, hj]; omega
      rw [ev] at this
      exact this
    | succ r =>
      have h1 : (j : Int) < (zs c : Int) := by omega
      simp only [h1, if_true, wi j (by unfold zs at h; omega)]
      have hlt := val_lt _ hc.nd
      have hb : val (cn c) * 10 ^ j < 100000000 := by
        have h2 : 10 ^ (cn c).length * 10 ^ j ≤ 10 ^ 8 := by rw [← Nat.pow_add]; exact Nat.pow_le_pow_right (by decide) (by unfold zs at h; omega)
        exact Nat.lt_of_lt_of_le (Nat.mul_lt_mul_of_pos_right hlt (Nat.pow_pos (by decide))) h2
      have hnew : wrap64 (10 * ((val (cn c) * 10 ^ j : Nat) : Int)) = ((val (cn c) * 10 ^ (j + 1) : Nat) : Int) := by
        rw [Nat.pow_succ, ← Nat.mul_assoc]
        generalize val (cn c) * 10 ^ j = q at hb ⊢
        clear hlt
        rw [w64 (by omega) (by omega)]; omega
      rw [hnew]
      exact l1_from c hc d hd hl idx r (j + 1) (by omega)
termination_by r => r
theorem new_part (p : List S29) (ph : Int) (i : Nat) (hi20 : i ≤ 1000) (c : S29) (hc : One c) (d : D) (hd : digs d = true) (hdl : d.length ≤ 16) (R : Bool → Int × Int × Int × Int × Int)
    (ih : ∀ more : Bool, Ev (fun k => dialtoneref12_Read.l0 k p (b d) ph more (wrap64 ((i : Int) + 1))) (R more)) (more : Bool) :
    Ev (fun k => dialtoneref12_Read.j5 k p (b d) ph more (i : Int) c.f0 c.f1 c.f2) (if ph = 1 then R more else if (cn c).isPrefixOf d = true ∧ (8 : Int) ≤ (d.length : Int) then hitS (eNew i c) d else R (more || (d.isPrefixOf (cn c) || (cn c).isPrefixOf d))) := by
  have a3 := hc.n1; have a4 := hc.n5
  refine Ev.step (fun k => by rw [dialtoneref12_Read.j5]) ?_
  by_cases hph : ph = 1
  · simp only [hph, if_true]
    have := ih more
    rw [hph] at this; exact this
  · simp only [hph, if_false, begins_eq, b_data, Option.bind_some, b_size]
    show Ev (fun k => if (cn c).isPrefixOf d = true then _ else _) _
    have rest : ∀ q : Bool, (q = true → ((cn c).isPrefixOf d = true ∧ (8 : Int) ≤ (d.length : Int))) → (q = false → ¬ ((cn c).isPrefixOf d = true ∧ (8 : Int) ≤ (d.length : Int))) →
        Ev (fun k => dialtoneref12_Read.j6 k p (b d) ph more (i : Int) q c.f0 c.f1 c.f2) (if (cn c).isPrefixOf d = true ∧ (8 : Int) ≤ (d.length : Int) then hitS (eNew i c) d else R (more || (d.isPrefixOf (cn c) || (cn c).isPrefixOf d))) := by
      intro q h1 h2
      refine Ev.step (fun k => by rw [dialtoneref12_Read.j6]) ?_
      cases q with
      | true =>
        have hq := h1 rfl
        have h8 : (8 : Int) ≤ (b d).size := by rw [b_size]; exact hq.2
        have h0 : (0 : Int) ≤ 8 := by decide
        have hp := List.isPrefixOf_iff_prefix.mp hq.1
        have e1 : (b d).extract 0 8 = b (d.take 8) := ext_take d 8
        have h9 : ¬ (d.length : Int) < (eNew i c).len := by simp only [eNew]; omega
        have e2 : (eNew i c).st ++ (d.drop (eNew i c).key.length).take ((eNew i c).len.toNat - (eNew i c).key.length) = d.take 8 := by
          simp only [eNew]
          have : d.take 8 = d.take ((cn c).length + (8 - (cn c).length)) := by congr 1; omega
          rw [this, List.take_add]
          have h2' : d.take (cn c).length = cn c := (List.prefix_iff_eq_take.mp hp).symm
          rw [h2']; rfl
        rw [if_pos hq, hit_num h9, e2]
        simp only [if_true, h0, h8, e1]
        refine Ev.bind (value_ev (b (d.take 8)) (by rw [b_size, List.length_take]; omega) (by rw [b_data]; exact digs_take hd 8)) ?_
        rw [b_data]
        exact Ev.now _
      | false =>
        rw [if_neg (h2 rfl)]
        simp only [Bool.false_eq_true, if_false]
        cases more with
        | true =>
          simp only [if_true, Bool.true_or]
          exact ih true
        | false =>
          simp only [Bool.false_eq_true, if_false, begins_eq, b_data, Option.bind_some, Bool.false_or]
          show Ev (fun k => if d.isPrefixOf (cn c) = true then _ else dialtoneref12_Read.l0 k p (b d) ph ((cn c).isPrefixOf d) (wrap64 ((i : Int) + 1))) _
          cases hdp : d.isPrefixOf (cn c) with
          | true => simp only [if_true, Bool.true_or]; exact ih true
          | false => simp only [Bool.false_eq_true, if_false, Bool.false_or]; exact ih _
    cases hp : (cn c).isPrefixOf d with
    | true =>
      rw [hp] at rest
      simp only [if_true, true_and] at rest ⊢
      by_cases h8 : (d.length : Int) ≥ 8
      · have h8' : (8 : Int) ≤ (d.length : Int) := h8
        exact rest (decide ((d.length : Int) ≥ 8)) (fun _ => h8') (fun h => by rw [decide_eq_false_iff_not] at h; exact absurd h8 h)
      · exact rest (decide ((d.length : Int) ≥ 8)) (fun h => by rw [decide_eq_true_eq] at h; exact absurd h h8) (fun _ hh => h8 hh)
    | false =>
      rw [hp] at rest
      simp only [Bool.false_eq_true, if_false]
      have := rest false (fun h => by cases h) (fun _ hh => by cases hh.1)
      simpa using this
theorem rread_from (p : List S29) (hv : vp p = true) (ph : Int) (hph : okPh ph = true) (d : D) (hd : digs d = true) (hdl : d.length ≤ 16) : ∀ r i : Nat, r + i = p.length → ∀ more : Bool,
    Ev (fun k => dialtoneref12_Read.l0 k p (b d) ph more (i : Int)) (rgo d (ents ph (p.drop i) i) more)
  | 0, i, h, more => by
    refine Ev.step (fun k => by rw [dialtoneref12_Read.l0]) ?_
    have h1 : ¬ ((i : Int) < p.length) := by omega
    simp only [h1, if_false]
    rw [List.drop_eq_nil_of_le (by omega)]
    unfold ents rgo
    cases more <;> exact Ev.now _
  | r + 1, i, h, more => by
    have h20 := vp_len hv
    have h1 : ((i : Int) < p.length) := by omega
    have h2 : (0 : Int) ≤ i := by omega
    have hi : i < p.length := by omega
    have hc := vp_one hv (List.getElem_mem hi)
    have ih := rread_from p hv ph hph d hd hdl r (i + 1) (by omega)
    rw [drop_at p i hi, ents]
    refine Ev.step (fun k => by rw [dialtoneref12_Read.l0]) ?_
    simp only [h1, h2, if_true, rd29 p i hi]
    generalize p[i] = c at *
    have a1 := hc.o1; have a2 := hc.o4; have a3 := hc.n1; have a4 := hc.n5; have a5 := hc.l1; have a6 := hc.l7; have a7 := hc.rm
    have e0 : c.f0.size = (co c).length := Lib.size_eq _
    have e1 : c.f1.size = (cn c).length := Lib.size_eq _
    have hnew := new_part p ph i (by omega) c hc d hd hdl (fun m => rgo d (ents ph (p.drop (i + 1)) (i + 1)) m) (fun m => by rw [wi i (by omega)]; exact ih m)
    have tail : ∀ m : Bool, rgo d ((if ph ≠ 1 then [eNew i c] else []) ++ ents ph (p.drop (i + 1)) (i + 1)) m = (if ph = 1 then rgo d (ents ph (p.drop (i + 1)) (i + 1)) m else if (cn c).isPrefixOf d = true ∧ (8 : Int) ≤ (d.length : Int) then hitS (eNew i c) d else rgo d (ents ph (p.drop (i + 1)) (i + 1)) (m || (d.isPrefixOf (cn c) || (cn c).isPrefixOf d))) := by
      intro m
      by_cases hp1 : ph = 1
      · rw [if_neg (by simp [hp1]), if_pos hp1]; rfl
      · rw [if_pos hp1, if_neg hp1]; rfl
    unfold es
    rw [List.append_assoc]
    by_cases h3 : ph = 3
    · have h31 : ¬ ((3 : Int) ≠ 3) := by decide
      simp only [h3, if_true] at *
      rw [if_neg h31, List.nil_append, tail more]
      exact hnew more
    · simp only [h3, if_false, begins_eq, b_data, Option.bind_some, b_size]
      rw [if_pos h3]
      have hold : rgo d ([eOld i c] ++ ((if ph ≠ 1 then [eNew i c] else []) ++ ents ph (p.drop (i + 1)) (i + 1))) more = if (co c).isPrefixOf d = true ∧ c.f2 ≤ (d.length : Int) then hitS (eOld i c) d else rgo d ((if ph ≠ 1 then [eNew i c] else []) ++ ents ph (p.drop (i + 1)) (i + 1)) (more || (d.isPrefixOf (co c) || (co c).isPrefixOf d)) := rfl
      rw [hold, tail]
      have rest : ∀ q : Bool, (q = true → ((co c).isPrefixOf d = true ∧ c.f2 ≤ (d.length : Int))) → (q = false → ¬ ((co c).isPrefixOf d = true ∧ c.f2 ≤ (d.length : Int))) →
          Ev (fun k => dialtoneref12_Read.j2 k p (b d) ph more (i : Int) q c.f0 c.f1 c.f2) (if (co c).isPrefixOf d = true ∧ c.f2 ≤ (d.length : Int) then hitS (eOld i c) d else (if ph = 1 then rgo d (ents ph (p.drop (i + 1)) (i + 1)) (more || (d.isPrefixOf (co c) || (co c).isPrefixOf d)) else if (cn c).isPrefixOf d = true ∧ (8 : Int) ≤ (d.length : Int) then hitS (eNew i c) d else rgo d (ents ph (p.drop (i + 1)) (i + 1)) ((more || (d.isPrefixOf (co c) || (co c).isPrefixOf d)) || (d.isPrefixOf (cn c) || (cn c).isPrefixOf d)))) := by
        intro q q1 q2
        refine Ev.step (fun k => by rw [dialtoneref12_Read.j2]) ?_
        cases q with
        | true =>
          have hq := q1 rfl
          rw [if_pos hq]
          simp only [if_true]
          refine Ev.bind (value_ev c.f1 (by omega) hc.nd) ?_
          have := l1_from c hc d hd hq.2 (i : Int) (zs c) 0 (by omega)
          have hh : hitS (eOld i c) d = (2, ((val (cn c ++ List.replicate (zs c) 48 ++ (d.drop (co c).length).take (c.f2.toNat - (co c).length)) : Nat) : Int), (i : Int), c.f2, 0) := by
            rw [hit_num (by simp only [eOld]; omega)]; rfl
          rw [hh]
          have e : ((val (cn c) * 10 ^ 0 : Nat) : Int) = ((val c.f1.data.toList : Nat) : Int) := by simp [cn]
          rw [e] at this
          exact this
        | false =>
          rw [if_neg (q2 rfl)]
          simp only [Bool.false_eq_true, if_false]
          cases more with
          | true =>
            simp only [if_true, Bool.true_or]
            exact hnew true
          | false =>
            simp only [Bool.false_eq_true, if_false, begins_eq, b_data, Option.bind_some, Bool.false_or]
            show Ev (fun k => if d.isPrefixOf (co c) = true then _ else dialtoneref12_Read.j5 k p (b d) ph ((co c).isPrefixOf d) (i : Int) c.f0 c.f1 c.f2) _
            cases hdp : d.isPrefixOf (co c) with
            | true => simp only [if_true, Bool.true_or]; exact hnew true
            | false => simp only [Bool.false_eq_true, if_false, Bool.false_or]; exact hnew _
      show Ev (fun k => if (co c).isPrefixOf d = true then _ else _) _
      cases hp : (co c).isPrefixOf d with
      | true =>
        rw [hp] at rest
        simp only [if_true, true_and] at rest ⊢
        by_cases h8 : (d.length : Int) ≥ c.f2
        · have h8' : c.f2 ≤ (d.length : Int) := h8
          exact rest (decide ((d.length : Int) ≥ c.f2)) (fun _ => h8') (fun h => by rw [decide_eq_false_iff_not] at h; exact absurd h8 h)
        · exact rest (decide ((d.length : Int) ≥ c.f2)) (fun h => by rw [decide_eq_true_eq] at h; exact absurd h h8) (fun _ hh => h8 hh)
      | false =>
        rw [hp] at rest
        simp only [Bool.false_eq_true, if_false]
        have := rest false (fun h => by cases h) (fun _ hh => by cases hh.1)
        simpa using this
theorem rread_all (p : List S29) (hf : Fits p) (d : D) (hd : d.length ≤ 1000) (ph : Int) : Ev (fun k => dialtoneref12_Read.f k p (b d) ph) (rAll p d ph) := by
  have hl := hf.len
  have bad : Ev (fun k => dialtoneref12_Read.j0 k p (b d) ph true) (0, 0, 0, 0, 120) := by
    refine Ev.step (fun k => by rw [dialtoneref12_Read.j0]) ?_
    simp only [if_true]
    exact Ev.now _
  unfold dialtoneref12_Read.f rAll
  refine Ev.bind (rvalid_ev p (by omega) hf.sm) ?_
  cases hv : vp p with
  | false =>
    simp only [Bool.false_eq_true, if_false, Bool.false_and]
    exact bad
  | true =>
    simp only [if_true, Bool.true_and]
    refine Ev.bind (digits_eq (b d) (by rw [b_size]; omega)) ?_
    rw [b_data]
    cases hg : digs d with
    | false =>
      simp only [Bool.false_eq_true, if_false, Bool.false_and]
      exact bad
    | true =>
      simp only [if_true, b_size, Bool.true_and]
      by_cases h16 : d.length ≤ 16
      · have h1 : ¬ (d.length : Int) > 16 := by omega
        simp only [h1, if_false, rphase_eq, Option.bind_some, h16, decide_true, Bool.true_and]
        cases hp : okPh ph with
        | false => simp only [Bool.not_false, Bool.false_eq_true, if_false]; exact bad
        | true =>
          simp only [Bool.not_true, if_true]
          refine Ev.step (fun k => by rw [dialtoneref12_Read.j0]) ?_
          simp only [Bool.false_eq_true, if_false]
          have := rread_from p hv ph hp d hg h16 p.length 0 (by omega) false
          rw [List.drop_zero, rgo_rE d _ (ents_apt hv ph)] at this
          exact this
      · have h1 : (d.length : Int) > 16 := by omega
        simp only [h1, if_true, h16, decide_false, Bool.false_and, Bool.false_eq_true, if_false]
        exact bad
def sAll (p : List S29) (x y : D) : Bool :=
  ((decide ((rAll p x 2).2.2.2.2 = 0) && decide ((rAll p x 2).1 = 2) && decide ((rAll p x 2).2.2.2.1 = (x.length : Int))) && (decide ((rAll p y 2).2.2.2.2 = 0) && decide ((rAll p y 2).1 = 2) && decide ((rAll p y 2).2.2.2.1 = (y.length : Int)))) && decide ((rAll p x 2).2.1 = (rAll p y 2).2.1)
theorem same_all (p : List S29) (hf : Fits p) (x y : D) (hx : x.length ≤ 1000) (hy : y.length ≤ 1000) : Ev (fun k => plan_Same.f k p (b x) (b y)) (sAll p x y) := by
  unfold plan_Same.f
  refine Ev.bind (read_all p hf x hx 2) ?_
  refine Ev.bind (read_all p hf y hy 2) ?_
  refine ⟨0, fun k _ => ?_⟩
  simp only [readsB, b_size, sAll]
theorem rsame_all (p : List S29) (hf : Fits p) (x y : D) (hx : x.length ≤ 1000) (hy : y.length ≤ 1000) : Ev (fun k => dialtoneref12_Same.f k p (b x) (b y)) (sAll p x y) := by
  unfold dialtoneref12_Same.f
  refine Ev.bind (rread_all p hf x hx 2) ?_
  refine Ev.bind (rread_all p hf y hy 2) ?_
  refine ⟨0, fun k _ => ?_⟩
  unfold sAll
  rw [b_size, b_size]
  generalize rAll p x 2 = X
  generalize rAll p y 2 = Y
  by_cases h1 : X.2.2.2.2 = 0 <;> by_cases h2 : Y.2.2.2.2 = 0 <;> by_cases h3 : X.1 = 2 <;> by_cases h4 : Y.1 = 2 <;> by_cases h5 : X.2.1 = Y.2.1 <;> by_cases h6 : X.2.2.2.1 = (x.length : Int) <;> simp [h1, h2, h3, h4, h5, h6]
  rw [Bool.eq_iff_iff, beq_iff_eq, decide_eq_true_eq]
end Go.Proofs.YtlmfoblgheepoaaGreatDoor.Pure
end
section
namespace Go.Proofs.YtlmfoblgheepoaaGreatDoor.Pure
open Go.RowKit Go.Proofs.YtlmfoblgheepoaaGreatDoorW.PrintWords Go.Proofs.YtlmfoblgheepoaaGreatDoorW.PrintLast Go.Proofs.YtlmfoblgheepoaaGreatDoorW.PrintMore Go.Proofs.YtlmfoblgheepoaaGreatDoor.Pl
set_option linter.unusedVariables false
set_option linter.unusedSimpArgs false
theorem fits_set {p : List S29} (hl : p.length ≤ 8) (hs : smallP p) (i : Nat) (c : S29) (h0 : c.f0.size ≤ 1000) (h1 : c.f1.size ≤ 1000) : Fits (p.set i c) := by
  refine ⟨by rw [List.length_set]; omega, fun x hx => ?_⟩
  rcases List.mem_or_eq_of_mem_set hx with h | h
  · exact hs x h
  · rw [h]; exact ⟨h0, h1⟩
theorem fits_app {p : List S29} (hl : p.length ≤ 8) (hs : smallP p) (c : S29) (h0 : c.f0.size ≤ 1000) (h1 : c.f1.size ≤ 1000) : Fits (p ++ [c]) := by
  refine ⟨by rw [List.length_append]; simp; omega, fun x hx => ?_⟩
  rcases List.mem_append.mp hx with h | h
  · exact hs x h
  · rw [List.mem_singleton.mp h]; exact ⟨h0, h1⟩
theorem bent_ev (p : List S29) (hv : vp p = true) (h8 : p.length ≤ 8) (how n at_ : Int) (hh : J64 how) (hn : J64 n) (ha : J64 at_) : ∃ q, Fits q ∧ Ev (fun k => dialtoneref12_Bent.f k p how n at_) q := by
  have hs := vp_small hv
  have g1 : 0 + p.length < 3518437208883 := by omega
  have g2 : p.length < 3518437208883 := by omega
  unfold dialtoneref12_Bent.f
  simp only [Option.bind_some, List.length_nil, List.nil_append, g1, g2, if_true]
  by_cases h0 : p.length = 0
  · have h0' : (p.length : Int) = 0 := by omega
    simp only [h0', if_true]
    exact ⟨_, fits_app h8 hs ⟨⟨#[]⟩, ⟨#[]⟩, n⟩ (by show (⟨#[]⟩ : ByteArray).size ≤ 1000; decide) (by show (⟨#[]⟩ : ByteArray).size ≤ 1000; decide), Ev.now _⟩
  · have h0' : ¬ (p.length : Int) = 0 := by omega
    obtain ⟨i, li, ei⟩ := pick_lt at_ ha p.length (by omega)
    obtain ⟨r, lr, er⟩ := pick_lt how hh 6 (by decide)
    have er' : dialtoneref12_pick.f how 6 = some (r : Int) := er
    have i0 : (0 : Int) ≤ i := by omega
    have i1 : (i : Int) < p.length := by omega
    have hz : (0 : Int) < p.length := by omega
    have hc := vp_one hv (List.getElem_mem li)
    have e0 : p[i].f0.size = (co p[i]).length := Lib.size_eq _
    have e1 : p[i].f1.size = (cn p[i]).length := Lib.size_eq _
    have a2 := hc.o4; have a4 := hc.n5
    have r0 : rd_T29 p 0 = p[0] := rd29 p 0 (by omega)
    simp only [h0', if_false, ei, Option.bind_some, i0, i1, if_true, er', rd29 p i li, hz, r0]
    by_cases c0 : r = 0
    · have c : (r : Int) = 0 := by omega
      simp only [c, if_true]
      exact ⟨_, fits_set h8 hs _ ⟨p[i].f0, p[i].f1, n⟩ (by show p[i].f0.size ≤ 1000; omega) (by show p[i].f1.size ≤ 1000; omega), Ev.now _⟩
    have d0 : ¬ (r : Int) = 0 := by omega
    simp only [d0, if_false]
    by_cases c1 : r = 1
    · have c : (r : Int) = 1 := by omega
      obtain ⟨z, lz, ez⟩ := pick_lt n hn 1000 (by decide)
      have ez' : dialtoneref12_pick.f n 1000 = some (z : Int) := ez
      obtain ⟨t, ht, hd, hev⟩ := prefix_ev z 3 (by decide) lz
      have hev' : Ev (fun k => dialtoneref12_prefix.f k (z : Int) 3) t := hev
      have hsz : p[i].f0.size + t.size ≤ 9223372036854775807 := by omega
      refine ⟨_, fits_set h8 hs i ⟨p[i].f0 ++ t, p[i].f1, p[i].f2⟩ (by show (p[i].f0 ++ t).size ≤ 1000; rw [ByteArray.size_append]; omega) (by show p[i].f1.size ≤ 1000; omega), ?_⟩
      simp only [c, if_true, ez', Option.bind_some]
      refine Ev.bind hev' ?_
      simp only [hsz, if_true, Int.toNat_natCast]
      exact Ev.now _
    have d1 : ¬ (r : Int) = 1 := by omega
    simp only [d1, if_false]
    by_cases c2 : r = 2
    · have c : (r : Int) = 2 := by omega
      have hsz : p[i].f1.size + 1 ≤ 9223372036854775807 := by omega
      have hone : (⟨#[120]⟩ : ByteArray).size = 1 := rfl
      simp only [c, if_true, hsz]
      exact ⟨_, fits_set h8 hs _ ⟨p[i].f0, p[i].f1 ++ ⟨#[120]⟩, p[i].f2⟩ (by show p[i].f0.size ≤ 1000; omega) (by show (p[i].f1 ++ ⟨#[120]⟩).size ≤ 1000; rw [ByteArray.size_append, hone]; omega), Ev.now _⟩
    have d2 : ¬ (r : Int) = 2 := by omega
    simp only [d2, if_false]
    by_cases c3 : r = 3
    · have c : (r : Int) = 3 := by omega
      simp only [c, if_true]
      exact ⟨_, fits_set h8 hs _ ⟨p[i].f0, p[i].f0, p[i].f2⟩ (by show p[i].f0.size ≤ 1000; omega) (by show p[i].f0.size ≤ 1000; omega), Ev.now _⟩
    have d3 : ¬ (r : Int) = 3 := by omega
    simp only [d3, if_false]
    by_cases c4 : r = 4
    · have c : (r : Int) = 4 := by omega
      simp only [c, if_true]
      exact ⟨_, fits_set h8 hs _ ⟨⟨#[]⟩, p[i].f1, p[i].f2⟩ (by show (⟨#[]⟩ : ByteArray).size ≤ 1000; decide) (by show p[i].f1.size ≤ 1000; omega), Ev.now _⟩
    have d4 : ¬ (r : Int) = 4 := by omega
    simp only [d4, if_false]
    have h00 := hs p[0] (List.getElem_mem (by omega))
    exact ⟨_, fits_app h8 hs ⟨p[0].f0, p[0].f1, p[0].f2⟩ h00.1 h00.2, Ev.now _⟩
end Go.Proofs.YtlmfoblgheepoaaGreatDoor.Pure
end
