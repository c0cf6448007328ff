/- Part 27 of the proof: texts joined by this repo's tools/merge2.py (WirM ShtM). By the prover of this repo. -/
import Derived.Test.YteebghoijaaakaaGreatM26
import Derived.Test.YteebghoijaaakaaGreatM21
import Derived.Test.YteebghoijaaakaaGreatM16
import Derived.Test.YteebghoijaaakaaGreatM17
set_option linter.unusedVariables false
set_option linter.unusedSimpArgs false
/- Plain facts: a digest's bytes as a list, and how they are read back. No program's step in sight. By the prover of this repo. -/
namespace Go.Proofs.YteebghoijaaakaaGreat
namespace WirM
open Go.RowKit
open TwigM RollM StoM VaryM

/-- A text of these bytes. -/
def str (l : List UInt8) : ByteArray := ⟨l.toArray⟩
theorem str_toList (l : List UInt8) : (str l).data.toList = l := rfl
theorem str_size (l : List UInt8) : (str l).size = l.length := rfl
theorem str_app (a b : List UInt8) : str a ++ str b = str (a ++ b) := str_ext (by simp [str])
theorem str_of (s : ByteArray) : s = str s.data.toList := str_ext rfl
theorem str_take (a b : List UInt8) : (str (a ++ b)).extract 0 a.length = str a := str_ext (by rw [extract_take]; simp [str])
theorem str_cut (a b : List UInt8) : (str (a ++ b)).extract a.length (str (a ++ b)).size = str b := str_ext (by simp [str, ByteArray.size])
theorem str_nil : (⟨#[]⟩ : ByteArray) = str [] := rfl

theorem encs_getD (z : List Int) : encs (fun i => z.getD i 0) z.length = encL z := by
  rw [encs_list]
  congr 1
  have := range_getD z 0 (id : Int → Int)
  simpa using this
theorem putF_list {z : List Int} (h : ∀ x ∈ z, 0 ≤ x) : putF (fun i => z.getD i 0) z.length = (str (encL z), 0) := by
  rw [putF_all (fun i hi => by simp [hi]; exact h _ (List.getElem_mem hi))]
  show ((⟨_⟩ : ByteArray), (0 : Int)) = _
  rw [encs_getD]
  rfl
theorem encL_cons (x : Int) (z : List Int) : encL (x :: z) = enc x.toNat ++ encL z := by simp [encL]

/-- A digest's bytes as a list. -/
def rawL (L K : Int) (l : List Nd) : List UInt8 :=
  [68, 87, 80, 1] ++ ([UInt8.ofNat L.toNat] ++ (enc K.toNat ++ (enc (sumL l).toNat ++ ((enc l.length ++ encL (rise 0 (l.map (·.1)))) ++ encL (l.map (·.2))))))
theorem rises_ids : ∀ (l : List Nd) (last : Int), (l.Pairwise fun p q => p.1 < q.1) → (∀ p ∈ l, last < p.1) → Rises last (l.map (·.1))
  | [], _, _, _ => trivial
  | p :: l, last, h, hl => by
    obtain ⟨h1, h2⟩ := List.pairwise_cons.1 h
    exact ⟨hl p (by simp), rises_ids l p.1 h2 h1⟩
theorem rawS_eq {L K : Int} {l : List Nd} (hc : Canon l) (hK : 0 ≤ K) (hid : ∀ p ∈ l, 1 ≤ p.1) : rawS L K l = str (rawL L K l) := by
  have hs := sumL_nonneg l hc.cntL
  have h1 : headS K (sumL l) = str (enc K.toNat ++ enc (sumL l).toNat) := by
    unfold headS
    have := putF_list (z := [K, sumL l]) (by simp; omega)
    rw [show ([K, sumL l] : List Int).length = 2 from rfl] at this
    rw [this]
    show str (encL [K, sumL l]) = _
    congr 1
    simp [encL]
  have h2 : idsS l = str (enc l.length ++ encL (rise 0 (l.map (·.1)))) := by
    unfold idsS
    have := risF_list (rises_ids l 0 hc.rise fun p hp => by have := hid p hp; omega)
    rw [List.length_map] at this
    rw [this]
    rfl
  have h3 : cntsS l = str (encL (l.map (·.2))) := by
    unfold cntsS
    have := putF_list (z := l.map (·.2)) (by
      intro x hx
      obtain ⟨p, hp, rfl⟩ := List.mem_map.1 hx
      have := hc.cnt p hp
      omega)
    rw [List.length_map] at this
    rw [this]
  unfold rawS
  rw [h1, h2, h3]
  refine str_ext ?_
  simp [str, rawL]
theorem fall_most {z : List Int} (r : List UInt8) {most : Int} (hL : z.length ≤ 1000000) (hm : (z.length : Int) ≤ most) (hr : Rises 0 z) (hx : ∀ x ∈ z, x ≤ 9223372036854775807) :
    fall ((enc z.length ++ encL (rise 0 z)) ++ r) most = (z, ((enc z.length ++ encL (rise 0 z)).length : Int), 0) := by
  have h := fall_rise r hL hr hx
  have hg := get_enc (m := z.length) (by omega) (encL (rise 0 z) ++ r)
  rw [← List.append_assoc] at hg
  unfold fall at h ⊢
  rw [hg, if_neg (by simp), if_neg (by simp)] at h
  rw [hg, if_neg (by simp), if_neg (by simp; omega)]
  exact h
theorem rawL_len {L K : Int} {l : List Nd} (hc : Canon l) (hu : ∀ p ∈ l, 1 ≤ p.1 ∧ p.1 ≤ 9223372036854775807) (hK0 : 0 ≤ K) (hK : K ≤ 9223372036854775807) (hs : sumL l ≤ 9223372036854775807) (hn : l.length ≤ 100000) : (rawL L K l).length ≤ 18 * l.length + 41 := by
  have h1 := enc_len9 (n := K.toNat) (by omega)
  have h2 := enc_len9 (n := (sumL l).toNat) (by omega)
  have h3 := enc_len9 (n := l.length) (by omega)
  have hids : ∀ x ∈ l.map (·.1), x ≤ 9223372036854775807 := by
    intro x hx
    obtain ⟨p, hp, rfl⟩ := List.mem_map.1 hx
    exact (hu p hp).2
  have h4 := encL_len _ (rise_le (l.map (·.1)) 0 (by omega) (rises_ids l 0 hc.rise fun p hp => by have := (hu p hp).1; omega) hids)
  rw [rise_len, List.length_map] at h4
  have h5 := encL_len (l.map (·.2)) (by
    intro x hx
    obtain ⟨p, hp, rfl⟩ := List.mem_map.1 hx
    have := sumL_le l hc.cntL p hp
    omega)
  rw [List.length_map] at h5
  unfold rawL
  simp only [List.length_append, List.length_cons, List.length_nil]
  omega
end WirM
end Go.Proofs.YteebghoijaaakaaGreat
/- Plain facts: a digest's lines, and how they are read back. No program's step in sight. By the prover of this repo. -/
namespace Go.Proofs.YteebghoijaaakaaGreat
namespace SH
open Go.RowKit
open TwigM RollM StoM VaryM WirM

theorem dg_rng (n : Nat) : 48 ≤ (dg n).toNat ∧ (dg n).toNat ≤ 57 := by rw [dg_val]; have := Nat.mod_lt n (show 0 < 10 by omega); omega
theorem numGo_app : ∀ (l r : List UInt8) (n i : Nat) (q : Nat × Nat), numGo n i l = some q → q.2 = i + l.length → numGo n i (l ++ r) = numGo q.1 q.2 r
  | [], r, n, i, q, h, _ => by rw [numGo_nil] at h; cases h; rfl
  | c :: l, r, n, i, q, h, hq => by
    by_cases hd : 48 ≤ c.toNat ∧ c.toNat ≤ 57
    · by_cases ho : 9223372036854775807 < 10 * n + (c.toNat - 48)
      · rw [numGo_over hd ho] at h; cases h
      · rw [numGo_on hd ho] at h
        rw [List.cons_append, numGo_on hd ho]
        exact numGo_app l r _ _ q h (by rw [hq, List.length_cons]; omega)
    · rw [numGo_stop hd] at h
      cases h
      simp at hq
theorem numGo_digF : ∀ (n : Nat), n ≤ 9223372036854775807 → numGo 0 0 (digF n) = some (n, (digF n).length) := by
  intro n
  induction n using Nat.strongRecOn with
  | ind n ih =>
    intro hn
    by_cases h : n < 10
    · rw [digF_small h]
      have hd := dg_rng n
      rw [numGo_on hd (by rw [dg_val]; omega), numGo_nil, dg_val]
      simp
      omega
    · rw [digF_more h]
      have h1 := ih (n / 10) (by omega) (by omega)
      rw [numGo_app _ _ _ _ _ h1 (by simp)]
      have hd := dg_rng n
      have hv := dg_val n
      rw [numGo_on hd (by simp only []; omega), numGo_nil]
      have e : 10 * (n / 10) + ((dg n).toNat - 48) = n := by omega
      simp only [e, List.length_append, List.length_cons, List.length_nil]
theorem digF_head : ∀ (n : Nat), (digF n).head? = some 48 → n = 0 := by
  intro n
  induction n using Nat.strongRecOn with
  | ind n ih =>
    intro h
    by_cases h1 : n < 10
    · rw [digF_small h1] at h
      have h := Option.some.inj h
      have hv := dg_val n
      rw [h] at hv
      have : (48 : UInt8).toNat = 48 := rfl
      omega
    · rw [digF_more h1] at h
      have hne := digF_ne (n / 10)
      cases hd : digF (n / 10) with
      | nil => exact absurd hd hne
      | cons c r =>
        rw [hd] at h
        have := ih (n / 10) (by omega) (by rw [hd]; exact h)
        omega
/-- A text goes on with what is no digit. -/
def NoDig : List UInt8 → Prop
  | [] => True
  | c :: _ => ¬ (48 ≤ c.toNat ∧ c.toNat ≤ 57)
theorem num_digF (n : Nat) (hn : n ≤ 9223372036854775807) (r : List UInt8) (hr : NoDig r) : numF (digF n ++ r) = (n, (digF n).length, true) := by
  have hp := List.length_pos_iff.2 (digF_ne n)
  have h1 : numGo 0 0 (digF n ++ r) = some (n, (digF n).length) := by
    rw [numGo_app _ _ _ _ _ (numGo_digF n hn) (by simp)]
    cases r with
    | nil => exact numGo_nil _ _
    | cons c r => exact numGo_stop hr
  have hh : (digF n ++ r).head? = (digF n).head? := by
    cases h : digF n with
    | nil => exact absurd h (digF_ne n)
    | cons c r => rfl
  unfold numF numE
  rw [h1]
  simp only
  rw [if_neg ?_]
  rw [hh]
  rintro (h | ⟨h, k⟩)
  · omega
  · have := digF_head n k
    subst this
    rw [digF_small (by omega)] at h
    simp at h
theorem digS_str {n : Int} (h : 0 ≤ n) : digS n = str (digF n.toNat) := by unfold digS; rw [if_neg (by omega)]; rfl
theorem digS_list {n : Int} (h : 0 ≤ n) : (digS n).data.toList = digF n.toNat := by rw [digS_str h]; rfl
theorem num_digs {n : Int} (h0 : 0 ≤ n) (h1 : n ≤ 9223372036854775807) (r : List UInt8) (hr : NoDig r) : numF ((digS n).data.toList ++ r) = (n.toNat, (digS n).data.toList.length, true) := by
  rw [digS_list h0]
  exact num_digF n.toNat (by omega) r hr
theorem digF_no10 : ∀ (n : Nat), ∀ c ∈ digF n, c ≠ 10 := by
  intro n
  induction n using Nat.strongRecOn with
  | ind n ih =>
    intro c hc
    have hd := dg_rng n
    have h10 : (10 : UInt8).toNat = 10 := rfl
    by_cases h : n < 10
    · rw [digF_small h] at hc
      obtain rfl : c = dg n := by simpa using hc
      intro e
      rw [e, h10] at hd
      omega
    · rw [digF_more h] at hc
      rcases List.mem_append.1 hc with k | k
      · exact ih (n / 10) (by omega) c k
      · obtain rfl : c = dg n := by simpa using k
        intro e
        rw [e, h10] at hd
        omega
theorem digS_no10 (n : Int) : ∀ c ∈ (digS n).data.toList, c ≠ 10 := by
  intro c hc
  by_cases h : 0 ≤ n
  · rw [digS_list h] at hc
    exact digF_no10 _ c hc
  · unfold digS at hc
    rw [if_pos (by omega)] at hc
    simp at hc
/-- The first byte 10. -/
theorem first_nl (l r : List UInt8) (h : ∀ c ∈ l, c ≠ 10) : Lib.indexByte (l ++ 10 :: r) 10 = l.length := by
  rcases byte_cases (l ++ 10 :: r) 10 with h1 | ⟨i, h1⟩
  · exact absurd (by simp) (Lib.indexByte_none h1 l.length)
  · obtain ⟨h2, h3⟩ := Lib.indexByte_some h1
    rw [h1]
    rcases Nat.lt_trichotomy i l.length with k | k | k
    · rw [List.getElem?_append_left k] at h2
      exact absurd rfl (h 10 (List.mem_of_getElem? h2))
    · rw [k]
    · have := h3 l.length k
      simp at this
/-- The leaves of a node's ends meet at the node. -/
theorem meet_ends (id : Int) (h : 1 ≤ id) : ∀ k : Nat, lg (id * pw k) = lg id + k ∧ lg (id * pw k + pw k - 1) = lg id + k ∧ meetI (id * pw k) (id * pw k + pw k - 1) = id
  | 0 => by
    have e : pw ((0 : Nat) : Int) = 1 := pw_zero
    rw [e, show id * 1 = id by omega, show id + 1 - 1 = id by omega]
    exact ⟨by omega, by omega, meetI_same id (by omega)⟩
  | k + 1 => by
    obtain ⟨h1, h2, h3⟩ := meet_ends id h k
    have hp := pw_pos (k : Int)
    have hlk := lg_nonneg id
    have e : pw ((k + 1 : Nat) : Int) = 2 * pw (k : Int) := by rw [Int.natCast_add]; exact pw_succ (by omega)
    have hm : id * pw ((k + 1 : Nat) : Int) = 2 * (id * pw k) := by rw [e, ← Int.mul_assoc, Int.mul_comm id 2, Int.mul_assoc]
    have hx1 : 1 ≤ id * pw k := Int.le_trans hp (by have := Int.mul_le_mul_of_nonneg_right h (show 0 ≤ pw (k : Int) by omega); omega)
    rw [hm, e]
    generalize hX : id * pw k = X at *
    generalize hY : pw (k : Int) = Y at *
    have a1 : (2 * X) / 2 = X := by omega
    have a2 : (2 * X + 2 * Y - 1) / 2 = X + Y - 1 := by omega
    have g1 : lg (2 * X) = lg id + (k + 1 : Nat) := by rw [lg_half (by omega), a1, h1]; omega
    have g2 : lg (2 * X + 2 * Y - 1) = lg id + (k + 1 : Nat) := by rw [lg_half (by omega), a2, h2]; omega
    refine ⟨g1, g2, ?_⟩
    obtain ⟨-, -, m, -⟩ := meetI_half (x := 2 * X) (y := 2 * X + 2 * Y - 1) (by omega) (by omega) (by omega) (g1.trans g2.symm)
    rw [m, a1, a2, h3]
theorem node_back {L id : Int} (hL : 1 ≤ L) (hL2 : L ≤ 48) (h0 : 1 ≤ id) (h1 : id < 2 * pw L) :
    ∃ a b : Int, leafF L (loF L id) = (a, true) ∧ leafF L (loF L id + pw (L - lg id) - 1) = (b, true) ∧ 1 ≤ a ∧ a ≤ 9223372036854775807 ∧ 1 ≤ b ∧ b ≤ 9223372036854775807 ∧ meetI a b = id := by
  have hd0 := lg_nonneg id
  have hd1 := (lg_le h0 (show 0 ≤ L by omega)).2 h1
  have hs := lg_spec h0
  have hp := pw_pos (L - lg id)
  have hp2 := pw_le48 hL2
  have hm : pw (lg id) * pw (L - lg id) = pw L := by rw [← pw_add hd0 (by omega)]; congr 1; omega
  have hlo : loF L id = id * pw (L - lg id) - pw L := by unfold loF; rw [Int.sub_mul, hm]
  have b1 : pw (lg id) * pw (L - lg id) ≤ id * pw (L - lg id) := Int.mul_le_mul_of_nonneg_right hs.1 (by omega)
  have b2 : (id + 1) * pw (L - lg id) ≤ 2 * pw (lg id) * pw (L - lg id) := Int.mul_le_mul_of_nonneg_right (by omega) (by omega)
  rw [Int.add_mul, Int.one_mul, Int.mul_assoc, hm] at b2
  rw [hm] at b1
  obtain ⟨k, hk⟩ := Int.eq_ofNat_of_zero_le (show 0 ≤ L - lg id by omega)
  have hme := (meet_ends id h0 k).2.2
  rw [← hk] at hme
  generalize pw (L - lg id) = Y at *
  generalize id * Y = X at *
  refine ⟨X, X + Y - 1, ?_, ?_, by omega, by omega, by omega, by omega, hme⟩
  · unfold leafF
    rw [hlo, if_pos ⟨hL, hL2, by omega, by omega⟩, show pw L + (X - pw L) = X by omega]
  · unfold leafF
    rw [hlo, if_pos ⟨hL, hL2, by omega, by omega⟩, show pw L + (X - pw L + Y - 1) = X + Y - 1 by omega]
end SH
end Go.Proofs.YteebghoijaaakaaGreat
