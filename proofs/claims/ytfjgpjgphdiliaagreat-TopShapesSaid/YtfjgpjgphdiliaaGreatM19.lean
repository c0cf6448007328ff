/- Part 19 of the proof: texts joined by this repo's tools/merge.py (BagBL TopM). By the prover of this repo. -/
import Derived.Test.YtfjgpjgphdiliaaGreatM18
set_option linter.unusedVariables false
set_option linter.unusedSimpArgs false
/- Plain facts on bags, on: ranks never fall; what is between; the value of a rank; ranks of what is poured, and of an image. No program in sight. By the prover of this repo. -/
namespace Go.Proofs.YtfjgpjgphdiliaaGreat
namespace BagM
open TwigM Go.RowKit

theorem bet_put (x y a n : Int) : ∀ l : List Rg, bet x y (put a n l) = bet x y l + if x ≤ a ∧ a ≤ y then n else 0
  | [] => by simp [put, bet]
  | p :: l => by
    rw [put]
    by_cases h1 : p.1 = a
    · rw [if_pos h1, bet, bet, h1]
      simp only
      by_cases h2 : x ≤ a ∧ a ≤ y
      · rw [if_pos h2, if_pos h2, if_pos h2]; omega
      · rw [if_neg h2, if_neg h2, if_neg h2]; omega
    · rw [if_neg h1]
      by_cases h3 : a < p.1
      · rw [if_pos h3, bet]; simp only; omega
      · rw [if_neg h3, bet, bet_put x y a n l, bet]; omega
theorem bet_putAll (x y : Int) : ∀ (r l : List Rg), bet x y (putAll l r) = bet x y l + bet x y r
  | [], l => by simp [putAll, bet]
  | p :: r, l => by rw [putAll, bet_putAll x y r, bet_put, bet]; omega
theorem rank_pour (x : Int) (l r : List Rg) : rank x (putAll l r) = rank x l + rank x r := bet_putAll 0 x r l
theorem bet_split (x y : Int) (h : x ≤ y) : ∀ l : List Rg, (∀ p ∈ l, 0 ≤ p.1) → bet x y l = rank y l - rank (x - 1) l
  | [], _ => rfl
  | p :: l, hl => by
    have h0 := hl p (by simp)
    have ih := bet_split x y h l fun q hq => hl q (by simp [hq])
    unfold rank at *
    rw [bet, bet, bet, ih]
    by_cases h1 : p.1 ≤ x - 1
    · rw [if_neg (by omega), if_pos (by omega), if_pos (by omega)]; omega
    · by_cases h2 : p.1 ≤ y
      · rw [if_pos (by omega), if_pos (by omega), if_neg (by omega)]; omega
      · rw [if_neg (by omega), if_neg (by omega), if_neg (by omega)]; omega
theorem rank_mono (x y : Int) (h : x ≤ y) : ∀ l : List Rg, (∀ p ∈ l, 1 ≤ p.2) → rank x l ≤ rank y l
  | [], _ => Int.le_refl _
  | p :: l, hl => by
    have h0 := hl p (by simp)
    have ih := rank_mono x y h l fun q hq => hl q (by simp [hq])
    unfold rank at *
    rw [bet, bet]
    by_cases h1 : 0 ≤ p.1 ∧ p.1 ≤ x
    · rw [if_pos h1, if_pos (by omega)]; omega
    · rw [if_neg h1]; split <;> omega
/-- Where the value of a rank lies. -/
theorem kth_place : ∀ (l : List Rg) (r : Int), (∀ p ∈ l, 1 ≤ p.2) → 1 ≤ r → r ≤ tot l → ∃ i, ∃ h : i < l.length, tot (l.take i) < r ∧ r ≤ tot (l.take (i + 1)) ∧ kthGo r l = l[i].1
  | [], r, _, h1, h2 => by simp [tot] at h2; omega
  | p :: l, r, hl, h1, h2 => by
    rw [tot] at h2
    by_cases hp : r ≤ p.2
    · exact ⟨0, by simp, by simp [tot]; omega, by simp [tot]; exact hp, by rw [kthGo, if_pos hp]; rfl⟩
    · obtain ⟨i, h, g1, g2, g3⟩ := kth_place l (r - p.2) (fun q hq => hl q (by simp [hq])) (by omega) (by omega)
      exact ⟨i + 1, by simp; exact h, by rw [List.take_succ_cons, tot]; omega, by rw [List.take_succ_cons, tot]; omega, by rw [kthGo, if_neg hp, g3]; simp⟩
theorem bet_before (x y : Int) : ∀ l : List Rg, (l.Pairwise fun p q => p.1 < q.1) → (∀ p ∈ l, x ≤ p.1) → ∀ i, (h : i < l.length) → l[i].1 - 1 = y → bet x y l = tot (l.take i)
  | [], _, _, i, h, _ => by simp at h
  | p :: l, hs, hx, 0, _, e => by
    have h' := List.pairwise_cons.1 hs
    simp only [List.getElem_cons_zero] at e
    rw [bet, if_neg (by omega), bet_zero x y l fun q hq => by have := h'.1 q hq; omega]
    simp [tot]
  | p :: l, hs, hx, i + 1, h, e => by
    have h' := List.pairwise_cons.1 hs
    simp only [List.getElem_cons_succ] at e
    have hil : i < l.length := by simpa using h
    have hlt := h'.1 l[i] (List.getElem_mem hil)
    rw [bet, if_pos ⟨hx p (by simp), by omega⟩, bet_before x y l h'.2 (fun q hq => hx q (by simp [hq])) i hil e, List.take_succ_cons, tot]
/-- The value of a rank is the least one of that rank. -/
theorem kth_rank {L : Int} (l : List Rg) (r : Int) (ho : Ok l) (hi0 : In L l) (h : (kthF l r).2 = 0) : r ≤ rank (kthF l r).1 l ∧ rank ((kthF l r).1 - 1) l < r := by
  unfold kthF at h ⊢
  by_cases h0 : l = []
  · rw [if_pos h0] at h; simp at h
  · rw [if_neg h0] at h ⊢
    by_cases h1 : r < 1 ∨ tot l < r
    · rw [if_pos h1] at h; simp at h
    · rw [if_neg h1]
      obtain ⟨i, hi1, g1, g2, g3⟩ := kth_place l r ho.pos (by omega) (by omega)
      simp only
      rw [g3, rank_at l ho.rise hi0 i hi1]
      refine ⟨g2, ?_⟩
      have : rank (l[i].1 - 1) l = tot (l.take i) := bet_before 0 _ l ho.rise (fun p hp => (hi0 p hp).1) i hi1 rfl
      omega
theorem kth_bound {L : Int} (l : List Rg) (r : Int) (hi0 : In L l) (ho : Ok l) (hL : L ≤ 48) : 0 ≤ (kthF l r).1 ∧ (kthF l r).1 ≤ 281474976710656 := by
  have hp := pw_le48 hL
  unfold kthF
  split
  · simp
  · split
    · simp
    · rename_i h0 h1
      obtain ⟨i, hi1, g1, g2, g3⟩ := kth_place l r ho.pos (by omega) (by omega)
      simp only
      rw [g3]
      have := hi0 l[i] (List.getElem_mem hi1)
      omega
/-- An image's ranks. -/
theorem rank_image {L : Int} (k v : Int) (hk : 0 ≤ k) (hv : 0 ≤ v) (r : List Rg) (hi0 : In L r) : rank v (imageF k r) = rank ((v + 1) * pw k - 1) r := by
  unfold imageF rank
  rw [bet_putAll]
  have hp := pw_pos k
  have key : ∀ r : List Rg, (∀ p ∈ r, 0 ≤ p.1) → bet 0 v (cut k r) = bet 0 ((v + 1) * pw k - 1) r := by
    intro r
    induction r with
    | nil => intro _; rfl
    | cons p r ih =>
      intro hr
      have h0 := hr p (by simp)
      have e : cut k (p :: r) = (p.1 / pw k, p.2) :: cut k r := rfl
      rw [e, bet, bet, ih fun q hq => hr q (by simp [hq])]
      have hiff : (0 ≤ p.1 / pw k ∧ p.1 / pw k ≤ v) ↔ (0 ≤ p.1 ∧ p.1 ≤ (v + 1) * pw k - 1) := by
        have h1 := Int.ediv_nonneg h0 (show 0 ≤ pw k by omega)
        have h2 : p.1 / pw k < v + 1 ↔ p.1 < (v + 1) * pw k := Int.ediv_lt_iff_lt_mul (by omega)
        constructor
        · intro h; exact ⟨h0, by have := h2.1 (by omega); omega⟩
        · intro h; exact ⟨h1, by have := h2.2 (by omega); omega⟩
      simp only [hiff]
  rw [key r fun p hp => (hi0 p hp).1]
  simp [bet]
theorem image_in {k L : Int} (hk : 0 ≤ k) (hkL : k ≤ L) (r : List Rg) (h : In L r) : In (L - k) (imageF k r) := by
  refine putAll_in _ _ (In.nil _) fun q hq => ?_
  obtain ⟨p, hp, rfl⟩ := List.mem_map.1 hq
  obtain ⟨h0, h1⟩ := h p hp
  have hpw := pw_pos k
  refine ⟨Int.ediv_nonneg h0 (by omega), ?_⟩
  refine (Int.ediv_lt_iff_lt_mul (by omega)).2 ?_
  have e := pw_add (a := L - k) (b := k) (by omega) hk
  rw [show L - k + k = L by omega] at e
  show p.1 < pw (L - k) * pw k
  omega
theorem prod_in {k L v : Int} (hk : 0 ≤ k) (hkL : k ≤ L) (hL : L ≤ 48) (h0 : 0 ≤ v) (h1 : v < pw (L - k)) : 1 ≤ (v + 1) * pw k ∧ (v + 1) * pw k ≤ 281474976710656 := by
  have hpw := pw_pos k
  have e := pw_add (a := L - k) (b := k) (by omega) hk
  rw [show L - k + k = L by omega] at e
  have h48 := pw_le48 hL
  have a1 : (v + 1) * pw k ≤ pw (L - k) * pw k := Int.mul_le_mul_of_nonneg_right (by omega) (by omega)
  have a2 : 1 * pw k ≤ (v + 1) * pw k := Int.mul_le_mul_of_nonneg_right (by omega) (by omega)
  omega
theorem tot_image (k : Int) (r : List Rg) : tot (imageF k r) = tot r := by
  unfold imageF; rw [tot_putAll, tot_cut]; simp [tot]
theorem pour_in {L M : Int} {l r : List Rg} (hl : In L l) (hr : In L r) : In L (pourF L M l r).1 := by
  unfold pourF
  split
  · exact hl
  · split
    · exact hl
    · exact putAll_in r l hl hr
theorem pour_rank {L : Int} (x : Int) (l r : List Rg) (h : (pourF L L l r).2 = 0) : rank x (pourF L L l r).1 = rank x l + rank x r := by
  unfold pourF at h ⊢
  rw [if_neg (by simp)] at h ⊢
  by_cases h1 : 72057594037927935 - tot l < tot r
  · rw [if_pos h1] at h; simp at h
  · rw [if_neg h1]; exact rank_pour x l r
end BagM
end Go.Proofs.YtfjgpjgphdiliaaGreat
/- Plain facts on what a digest stands for: as it is filled, pressed, as its nodes move to a greater or lesser universe. No program's step in sight. By the prover of this repo. -/
namespace Go.Proofs.YtfjgpjgphdiliaaGreat
namespace TopM
open TwigM RollM StoM Go.RowKit

/-- What a digest's nodes are, and what they stand for: a bag. -/
structure Inv (K L : Int) (l : List Nd) (b : List Nd) (N : Nat) : Prop where
  canon : Canon l
  inU : InU L l
  light : LightW L (sumL l / K) l
  room : (l.length : Int) ≤ 8 * K
  len : l.length ≤ N
  ok : BagM.Ok b
  inb : BagM.In L b
  blen : b.length ≤ N
  tot : sumL l = BagM.tot b
  low : ∀ y, lowS L y l ≤ BagM.rank y b
  high : ∀ y, BagM.rank y b ≤ highS L y l
theorem bet_none (x y : Int) (h : y < x) : ∀ l : List Nd, BagM.bet x y l = 0
  | [] => rfl
  | p :: l => by
    rw [BagM.bet, bet_none x y h l, if_neg (by omega)]; try omega
theorem Inv.sum {K L : Int} {l b : List Nd} {N : Nat} (h : Inv K L l b N) : sumL l ≤ 72057594037927935 := by rw [h.tot]; exact h.ok.most
theorem Inv.nil {K L : Int} (hK : 1 ≤ K) (N : Nat) : Inv K L [] [] N where
  canon := Canon.nil
  inU := fun p hp => by cases hp
  light := fun id _ _ => by
    show (0 : Int) ≤ 0 / K
    rw [Int.zero_ediv]; exact Int.le_refl _
  room := by simp; omega
  len := by simp
  ok := BagM.Ok.nil
  inb := BagM.In.nil L
  blen := by simp
  tot := rfl
  low := fun y => Int.le_refl _
  high := fun y => Int.le_refl _
theorem Inv.more {K L : Int} {l b : List Nd} {N M : Nat} (h : Inv K L l b N) (hM : N ≤ M) : Inv K L l b M :=
  ⟨h.canon, h.inU, h.light, h.room, Nat.le_trans h.len hM, h.ok, h.inb, Nat.le_trans h.blen hM, h.tot, h.low, h.high⟩
theorem Inv.press {K L : Int} {l b : List Nd} {N : Nat} (h : Inv K L l b N) (hL : 1 ≤ L) (hK : 1 ≤ K) : Inv K L (pressF L K l).1 b N ∧ ((pressF L K l).1.length : Int) ≤ 4 * K - 1 := by
  obtain ⟨k, h1, h2⟩ := press_all hL hK h.canon h.inU
  have hlen := h.len
  refine ⟨⟨k.canon, k.inU, ?_, by omega, by omega, h.ok, h.inb, h.blen, k.sum.trans h.tot, fun y => Int.le_trans (k.low y) (h.low y), fun y => Int.le_trans (h.high y) (k.high y)⟩, h2⟩
  rw [k.sum]
  exact k.light h.light
theorem leaf_ends {L x : Int} (hL : 1 ≤ L) (h0 : 0 ≤ x) (h1 : x < pw L) : lg (pw L + x) = L ∧ loF L (pw L + x) = x ∧ hiF L (pw L + x) = x := by
  have hp := pw_pos L
  have e : lg (pw L + x) = L := lg_unique (by omega) (by omega) (by omega)
  have e2 : loF L (pw L + x) = x := by
    unfold loF
    rw [e, show L - L = 0 by omega, pw_zero]; omega
  refine ⟨e, e2, ?_⟩
  unfold hiF
  rw [e, e2, show L - L = 0 by omega, pw_zero]; omega
theorem rank_put (y a n : Int) (l : List Nd) (ha : 0 ≤ a) : BagM.rank y (BagM.put a n l) = BagM.rank y l + if a ≤ y then n else 0 := by
  unfold BagM.rank
  rw [BagM.bet_put]
  by_cases h : a ≤ y
  · rw [if_pos h, if_pos ⟨ha, h⟩]
  · rw [if_neg h, if_neg (fun k => h k.2)]
theorem Inv.put {K L : Int} {l b : List Nd} {N : Nat} (h : Inv K L l b N) (hL : 1 ≤ L) (hK : 1 ≤ K) {x c : Int} (h0 : 0 ≤ x) (h1 : x < pw L) (hc : 1 ≤ c) (hs : sumL l + c ≤ 72057594037927935)
    (hr : wt (pw L + x) l = 0 → (l.length : Int) < 8 * K) : Inv K L (addS (pw L + x) c l) (BagM.put x c b) (N + 1) := by
  obtain ⟨e1, e2, e3⟩ := leaf_ends hL h0 h1
  have hp := pw_pos L
  have ha : addS (pw L + x) c l = StoM.put (pw L + x) c l := if_neg (by omega)
  have hlp := len_put h.canon (pw L + x) c
  have hlen := h.len
  have hroom := h.room
  have hbl := BagM.put_len x c b
  have hb2 := h.blen
  have ht := h.tot
  refine ⟨canon_addS h.canon (by omega), inU_addS h.inU (by omega) (by omega), ?_, ?_, ?_, h.ok.put x c hc (by omega), h.inb.put x c h0 h1, by omega, ?_, ?_, ?_⟩
  · rw [sumL_addS]
    intro id i1 i2
    rw [wt_addS, if_neg (by omega)]
    have := h.light id i1 i2
    have hm : sumL l / K ≤ (sumL l + c) / K := Int.ediv_le_ediv (by omega) (by omega)
    omega
  · rw [ha, hlp]
    split
    · rename_i hz
      have := hr hz
      omega
    · omega
  · rw [ha, hlp]; split <;> omega
  · rw [sumL_addS, BagM.tot_put]; omega
  · intro y
    rw [ha, rank_put y x c b h0]
    unfold lowS
    rw [sumM_put, e3]
    have := h.low y
    unfold lowS at this
    split <;> omega
  · intro y
    rw [ha, rank_put y x c b h0]
    unfold highS
    rw [sumM_put, e2]
    have := h.high y
    unfold highS at this
    split <;> omega
theorem Inv.insert {K L : Int} {l b : List Nd} {N : Nat} (h : Inv K L l b N) (hL : 1 ≤ L) (hK : 1 ≤ K) {x c : Int} (hi : insE L x c (sumL l) = 0) : Inv K L (insF L K x c l) (BagM.put x c b) (N + 1) := by
  unfold insE at hi
  have hx : 0 ≤ x ∧ x < pw L := by
    by_cases k : 0 ≤ x ∧ x < pw L
    · exact k
    · rw [if_neg k] at hi; omega
  rw [if_pos hx] at hi
  have hc : ¬ c < 1 := fun k => by rw [if_pos k] at hi; omega
  rw [if_neg hc] at hi
  have hs : ¬ 72057594037927935 < sumL l + c := fun k => by rw [if_pos k] at hi; omega
  unfold insF roomF
  by_cases hr : wt (pw L + x) l = 0 ∧ 8 * K ≤ (l.length : Int)
  · rw [if_pos hr]
    obtain ⟨h2, h3⟩ := h.press hL hK
    have e : sumL (pressF L K l).1 = sumL l := h2.tot.trans h.tot.symm
    exact h2.put hL hK hx.1 hx.2 (by omega) (by omega) fun _ => by omega
  · rw [if_neg hr]
    exact h.put hL hK hx.1 hx.2 (by omega) (by omega) fun hz => by
      have : ¬ 8 * K ≤ (l.length : Int) := fun k => hr ⟨hz, k⟩
      omega
/-- Numbers without any twice are no more than those that they are among. -/
theorem nodup_len : ∀ (a b : List Int), a.Nodup → (∀ x ∈ a, x ∈ b) → a.length ≤ b.length
  | [], _, _, _ => by simp
  | x :: a, b, hn, hs => by
    obtain ⟨h1, h2⟩ := List.nodup_cons.1 hn
    have hx := hs x (by simp)
    have ih := nodup_len a (b.erase x) h2 fun y hy => (List.mem_erase_of_ne (fun e => h1 (by rw [← e]; exact hy))).2 (hs y (by simp [hy]))
    have hl := List.length_erase_of_mem hx
    have hp := List.length_pos_of_mem hx
    simp only [List.length_cons]
    omega
theorem right_of {L : Int} (h1 : 1 ≤ L) (h2 : L ≤ 48) : ∀ (l : List Nd) (last : Int), Canon l → InU L l → (∀ p ∈ l, last < p.1) → rightGo L last l = true
  | [], _, _, _, _ => rfl
  | p :: l, last, hc, hu, hl => by
    obtain ⟨r1, r2⟩ := List.pairwise_cons.1 hc.rise
    obtain ⟨u1, u2⟩ := hu p (by simp)
    have hp := hc.cnt p (by simp)
    have hb : rightB L p.1 = true := right_mk h1 h2 u1 u2
    rw [rightGo, if_neg, right_of h1 h2 l p.1 ⟨r2, fun q hq => hc.cnt q (by simp [hq])⟩ (fun q hq => hu q (by simp [hq])) r1]
    have := hl p (by simp)
    rintro (k | k | k)
    · omega
    · rw [hb] at k; cases k
    · omega
theorem roll_of {L : Int} (h1 : 1 ≤ L) (h2 : L ≤ 48) {l : List Nd} (hc : Canon l) (hu : InU L l) (hs : sumL l ≤ 72057594037927935) : rollB L l = true := by
  unfold rollB
  rw [right_of h1 h2 l 0 hc hu fun p hp => by have := hu p hp; omega, totF_ok l hc.cntL hs]
  simp [uniB, h1, h2]
theorem load_of {K L kd : Int} {l b : List Nd} {N : Nat} (h : Inv K L l b N) (h1 : 1 ≤ L) (h2 : L ≤ 48) (hK1 : 1 ≤ K) (hK2 : K ≤ 1048576) (hk : kindB kd L = true) : loadB L K kd l = true := by
  unfold loadB confB
  have hsum := h.sum
  have hm : 0 ≤ sumL l / K := Int.ediv_nonneg (sumL_nonneg l h.canon.cntL) (by omega)
  have hroom := h.room
  rw [hk, roll_of h1 h2 h.canon h.inU hsum, (lightB_iff h.canon h.inU hm).2 h.light]
  simp [hK1, hK2, hroom]
/-- All nodes moved, and brought down to one a number. -/
structure Moved (f : Int → Int) (L' : Int) (l S : List Nd) : Prop where
  canon : Canon S
  inU : InU L' S
  sum : sumL S = sumL l
  all : ∀ g, sumM g S = sumM (fun id => g (f id)) l
  len : S.length ≤ l.length
theorem moved_of {f : Int → Int} {L' : Int} {l : List Nd} (hc : Canon l) (hs : sumL l ≤ 72057594037927935) (hf : ∀ p ∈ l, 1 ≤ f p.1 ∧ f p.1 < 2 * pw L') : Moved f L' l (foldF (l.map fun q => (f q.1, q.2))).1 := by
  have hsum : sumL (l.map fun q => (f q.1, q.2)) = sumL l := by rw [sumL_M, sumM_map, ← sumL_M]
  have hg : RollM.Good (l.map fun q => (f q.1, q.2)) := by
    refine ⟨fun p hp => ?_, by rw [hsum]; exact hs, fun p hp => ?_⟩
    · obtain ⟨q, hq, rfl⟩ := List.mem_map.1 hp
      exact Int.le_of_lt (hc.cnt q hq)
    · obtain ⟨q, hq, rfl⟩ := List.mem_map.1 hp
      exact (hf q hq).1
  obtain ⟨S, e, h1, h2, h3, h4, h5⟩ := foldF_good _ hg
  rw [e]
  have hmem : ∀ p ∈ S, ∃ q ∈ l, f q.1 = p.1 := fun p hp => by
    obtain ⟨q, hq, e2⟩ := h5 p hp
    obtain ⟨r, hr, rfl⟩ := List.mem_map.1 hq
    exact ⟨r, hr, e2⟩
  refine ⟨h1, fun p hp => ?_, h3.trans hsum, fun g => ?_, ?_⟩
  · obtain ⟨q, hq, e2⟩ := hmem p hp
    rw [← e2]
    exact hf q hq
  · rw [sumM_ext g _ S (l.map fun q => (f q.1, q.2)) (Nat.le_refl _) h2, sumM_map]
  · have hn : (S.map (·.1)).Nodup := by
      rw [List.Nodup, List.pairwise_map]
      exact h1.rise.imp fun {a b} k e => by omega
    have := nodup_len (S.map (·.1)) (l.map fun q => f q.1) hn fun x hx => by
      obtain ⟨p, hp, rfl⟩ := List.mem_map.1 hx
      obtain ⟨q, hq, e2⟩ := hmem p hp
      exact List.mem_map.2 ⟨q, hq, e2⟩
    simpa using this
theorem moved_wt {f : Int → Int} {L' : Int} {l S : List Nd} (h : Moved f L' l S) (x : Int) : wt x S = sumM (fun id => if f id = x then 1 else 0) l := by
  rw [wt_M, h.all]
theorem graft_of {id k : Int} (h0 : 1 ≤ id) (hk : 0 ≤ k) (hd : lg id + k ≤ 48) : (graftF id k).1 = id - pw (lg id) + pw (lg id + k) := by unfold graftF; rw [if_pos ⟨h0, hk, hd⟩]
theorem prune_of {id k : Int} (h0 : 1 ≤ id) (hk : 0 ≤ k) : (pruneF id k).1 = id / pw (lg id - k) := by unfold pruneF; rw [if_pos ⟨h0, hk⟩]
section
variable {K L : Int} {l b : List Nd} {N : Nat}
theorem grow_moved_of (h : Inv K L l b N) (h1 : 1 ≤ L) {L' : Int} (h2 : L ≤ L') (h3 : L' ≤ 48) : Moved (fun id => (graftF id (L' - L)).1) L' l (growL (L' - L) l) := by
  refine moved_of h.canon h.sum fun p hp => ?_
  obtain ⟨u1, u2⟩ := h.inU p hp
  have hd := (lg_le u1 (show 0 ≤ L by omega)).2 u2
  obtain ⟨g1, g2, _, _, _⟩ := graft_facts h1 u1 u2 (show 0 ≤ L' - L by omega)
  rw [show L + (L' - L) = L' by omega] at g2
  rw [graft_of u1 (by omega) (by omega)]
  exact ⟨g1, g2⟩
theorem graft_ends (h1 : 1 ≤ L) {L' : Int} (h2 : L ≤ L') (h3 : L' ≤ 48) {id : Int} (u1 : 1 ≤ id) (u2 : id < 2 * pw L) : lg (graftF id (L' - L)).1 = lg id + (L' - L) ∧ loF L' (graftF id (L' - L)).1 = loF L id ∧ hiF L' (graftF id (L' - L)).1 = hiF L id := by
  have hd := (lg_le u1 (show 0 ≤ L by omega)).2 u2
  obtain ⟨g1, g2, g3, g4, g5⟩ := graft_facts h1 u1 u2 (show 0 ≤ L' - L by omega)
  rw [graft_of u1 (by omega) (by omega)]
  rw [show L + (L' - L) = L' by omega] at g4 g5
  refine ⟨g3, g4, ?_⟩
  unfold hiF
  rw [g4, g3, show L' - (lg id + (L' - L)) = L - lg id by omega]
theorem graft_inj (h1 : 1 ≤ L) {L' : Int} (h2 : L ≤ L') (h3 : L' ≤ 48) {x y : Int} (u1 : 1 ≤ x) (u2 : x < 2 * pw L) (v1 : 1 ≤ y) (v2 : y < 2 * pw L) (e : (graftF x (L' - L)).1 = (graftF y (L' - L)).1) : x = y := by
  have a := (graft_ends h1 h2 h3 u1 u2).1
  have c := (graft_ends h1 h2 h3 v1 v2).1
  rw [e] at a
  have hd1 := (lg_le u1 (show 0 ≤ L by omega)).2 u2
  have hd2 := (lg_le v1 (show 0 ≤ L by omega)).2 v2
  have e2 : lg x = lg y := by omega
  rw [graft_of u1 (by omega) (by omega), graft_of v1 (by omega) (by omega), e2] at e
  omega
theorem sumM_one {f : Int → Int} {x a : Int} (hc : Cnt l) (h : ∀ p ∈ l, f p.1 = x → p.1 = a) : sumM (fun id => if f id = x then 1 else 0) l ≤ wt a l := by
  rw [wt_M]
  refine sumM_le hc fun p hp => ?_
  split
  · rename_i e
    rw [if_pos (h p hp e)]; omega
  · split <;> omega
theorem Inv.grow (h : Inv K L l b N) (h1 : 1 ≤ L) (hK : 1 ≤ K) {L' : Int} (h2 : L ≤ L') (h3 : L' ≤ 48) : Inv K L' (growL (L' - L) l) b N := by
  have m := grow_moved_of h h1 h2 h3
  have hlen := m.len
  have hl := h.len
  have hroom := h.room
  refine ⟨m.canon, m.inU, ?_, by omega, by omega, h.ok, fun p hp => ?_, h.blen, m.sum.trans h.tot, fun y => ?_, fun y => ?_⟩
  · rw [m.sum]
    intro x i1 i2
    rw [moved_wt m]
    by_cases hex : ∃ p ∈ l, (graftF p.1 (L' - L)).1 = x
    · obtain ⟨p, hp, e⟩ := hex
      obtain ⟨u1, u2⟩ := h.inU p hp
      have hle : sumM (fun id => if (graftF id (L' - L)).1 = x then 1 else 0) l ≤ wt p.1 l := sumM_one (f := fun id => (graftF id (L' - L)).1) h.canon.cntL fun q hq e2 => by
        obtain ⟨v1, v2⟩ := h.inU q hq
        exact graft_inj h1 h2 h3 v1 v2 u1 u2 (e2.trans e.symm)
      have hg := (graft_ends h1 h2 h3 u1 u2).1
      have hlx := (lg_lt i1 (show 0 ≤ L' by omega)).2 i2
      rw [← e, hg] at hlx
      have hp2 := (lg_lt u1 (show 0 ≤ L by omega)).1 (by omega)
      have := h.light p.1 u1 hp2
      omega
    · have hz : sumM (fun id => if (graftF id (L' - L)).1 = x then 1 else 0) l = 0 := by
        rw [sumM_congr (g := fun _ => 0) fun p hp => if_neg fun e => hex ⟨p, hp, e⟩, sumM_zero]
      rw [hz]
      exact Int.ediv_nonneg (sumL_nonneg l h.canon.cntL) (by omega)
  · have := h.inb p hp
    have hm := pw_mono h2
    omega
  · have : lowS L' y (growL (L' - L) l) = lowS L y l := by
      unfold lowS
      rw [m.all]
      refine sumM_congr fun p hp => ?_
      obtain ⟨u1, u2⟩ := h.inU p hp
      rw [(graft_ends h1 h2 h3 u1 u2).2.2]
    rw [this]
    exact h.low y
  · have : highS L' y (growL (L' - L) l) = highS L y l := by
      unfold highS
      rw [m.all]
      refine sumM_congr fun p hp => ?_
      obtain ⟨u1, u2⟩ := h.inU p hp
      rw [(graft_ends h1 h2 h3 u1 u2).2.1]
    rw [this]
    exact h.high y
theorem prune_ends {k : Int} (hk0 : 0 ≤ k) (hk1 : k < L) {id : Int} (u1 : 1 ≤ id) (u2 : id < 2 * pw L) :
    1 ≤ (pruneF id (L - k)).1 ∧ (pruneF id (L - k)).1 < 2 * pw (L - k) ∧ loF (L - k) (pruneF id (L - k)).1 = loF L id / pw k ∧ hiF (L - k) (pruneF id (L - k)).1 = hiF L id / pw k ∧ (lg (pruneF id (L - k)).1 < L - k → (pruneF id (L - k)).1 = id) := by
  rw [prune_of u1 (by omega)]
  by_cases hd : lg id ≤ L - k
  · have e : id / pw (lg id - (L - k)) = id := by rw [pw_neg (by omega), Int.ediv_one]
    obtain ⟨a, c⟩ := prune_same u1 hk0 hd
    rw [e]
    refine ⟨u1, (lg_le u1 (show 0 ≤ L - k by omega)).1 hd, a.symm, ?_, fun _ => rfl⟩
    unfold hiF
    rw [c]
  · obtain ⟨a1, a2, a3, a4, a5⟩ := prune_less u1 u2 hk0 hk1 (by omega)
    refine ⟨a1, a3, a4.symm, ?_, fun q => by omega⟩
    unfold hiF
    rw [a2, ← a5]
theorem div_le_iff (h y P : Int) (hP : 1 ≤ P) : h / P ≤ y ↔ h ≤ (y + 1) * P - 1 := by
  have h1 : h / P ≤ y ↔ h / P < y + 1 := by omega
  rw [h1, Int.ediv_lt_iff_lt_mul (by omega)]
  omega
theorem coar_moved_of (h : Inv K L l b N) {k : Int} (hk0 : 0 ≤ k) (hk1 : k < L) : Moved (fun id => (pruneF id (L - k)).1) (L - k) l (coarL (L - k) l) :=
  moved_of h.canon h.sum fun p hp => by
    obtain ⟨u1, u2⟩ := h.inU p hp
    have := prune_ends hk0 hk1 u1 u2
    exact ⟨this.1, this.2.1⟩
theorem cut_len (k : Int) (r : List Nd) : (BagM.cut k r).length = r.length := by unfold BagM.cut; simp
theorem rank_neg {y : Int} (h : y < 0) (r : List Nd) : BagM.rank y r = 0 := bet_none 0 y h r
theorem image_rank {k : Int} (hk0 : 0 ≤ k) (hi : BagM.In L b) (y : Int) : BagM.rank y (BagM.imageF k b) = BagM.rank ((y + 1) * pw k - 1) b := by
  by_cases hy : 0 ≤ y
  · exact BagM.rank_image k y hk0 hy b hi
  · have hp := pw_pos k
    have : (y + 1) * pw k ≤ 0 := by
      have := Int.mul_le_mul_of_nonneg_right (show y + 1 ≤ 0 by omega) (show 0 ≤ pw k by omega)
      omega
    rw [rank_neg (by omega), rank_neg (by omega)]
theorem image_ok {k : Int} (h : BagM.Ok b) : BagM.Ok (BagM.imageF k b) := by
  refine BagM.putAll_ok _ _ BagM.Ok.nil (fun p hp => ?_) (by rw [BagM.tot_cut]; have := h.most; simp [BagM.tot]; omega)
  unfold BagM.cut at hp
  obtain ⟨q, hq, rfl⟩ := List.mem_map.1 hp
  exact h.pos q hq
theorem Inv.coarsen (h : Inv K L l b N) (hL : L ≤ 48) (hK : 1 ≤ K) {k : Int} (hk0 : 0 ≤ k) (hk1 : k < L) : Inv K (L - k) (coarL (L - k) l) (BagM.imageF k b) N := by
  have m := coar_moved_of h hk0 hk1
  have hlen := m.len
  have hl := h.len
  have hroom := h.room
  have hbl : (BagM.imageF k b).length ≤ b.length := by
    have := BagM.putAll_len (BagM.cut k b) []
    rw [cut_len] at this
    simpa [BagM.imageF] using this
  have hbl2 := h.blen
  have hP := pw_pos k
  refine ⟨m.canon, m.inU, ?_, by omega, by omega, image_ok h.ok, BagM.image_in hk0 (by omega) b h.inb, by omega, ?_, fun y => ?_, fun y => ?_⟩
  · rw [m.sum]
    intro x i1 i2
    rw [moved_wt m]
    have hlx := (lg_lt i1 (show 0 ≤ L - k by omega)).2 i2
    have hle : sumM (fun id => if (pruneF id (L - k)).1 = x then 1 else 0) l ≤ wt x l := sumM_one (f := fun id => (pruneF id (L - k)).1) h.canon.cntL fun q hq e => by
      obtain ⟨v1, v2⟩ := h.inU q hq
      have := (prune_ends hk0 hk1 v1 v2).2.2.2.2 (by rw [e]; exact hlx)
      rw [← this]; exact e
    have hm := pw_mono (show L - k ≤ L by omega)
    have := h.light x i1 (by omega)
    omega
  · rw [m.sum, h.tot, BagM.tot_image]
  · have : lowS (L - k) y (coarL (L - k) l) = lowS L ((y + 1) * pw k - 1) l := by
      unfold lowS
      rw [m.all]
      refine sumM_congr fun p hp => ?_
      obtain ⟨u1, u2⟩ := h.inU p hp
      rw [(prune_ends hk0 hk1 u1 u2).2.2.2.1]
      have := div_le_iff (hiF L p.1) y (pw k) hP
      by_cases q : hiF L p.1 / pw k ≤ y
      · rw [if_pos q, if_pos (this.1 q)]
      · rw [if_neg q, if_neg fun z => q (this.2 z)]
    rw [this, image_rank hk0 h.inb]
    exact h.low _
  · have : highS (L - k) y (coarL (L - k) l) = highS L ((y + 1) * pw k - 1) l := by
      unfold highS
      rw [m.all]
      refine sumM_congr fun p hp => ?_
      obtain ⟨u1, u2⟩ := h.inU p hp
      rw [(prune_ends hk0 hk1 u1 u2).2.2.1]
      have := div_le_iff (loF L p.1) y (pw k) hP
      by_cases q : loF L p.1 / pw k ≤ y
      · rw [if_pos q, if_pos (this.1 q)]
      · rw [if_neg q, if_neg fun z => q (this.2 z)]
    rw [this, image_rank hk0 h.inb]
    exact h.high _
/-- Bounds of what moves. -/
theorem wf_of {S : List Nd} {L' : Int} (hc : Canon S) (hu : InU L' S) (hL : L' ≤ 48) (hs : sumL S ≤ 72057594037927935) : NdWf S := fun p hp => by
  have h1 := hu p hp
  have h2 := pw_le48 hL
  have h3 := hc.cnt p hp
  have h4 := sumL_le S hc.cntL p hp
  omega
theorem wf_map {f : Int → Int} {L' : Int} (hc : Canon l) (hs : sumL l ≤ 72057594037927935) (hL : L' ≤ 48) (hf : ∀ p ∈ l, 1 ≤ f p.1 ∧ f p.1 < 2 * pw L') : NdWf (l.map fun q => (f q.1, q.2)) := fun p hp => by
  obtain ⟨q, hq, rfl⟩ := List.mem_map.1 hp
  have h1 := hf q hq
  have h2 := pw_le48 hL
  have h3 := hc.cnt q hq
  have h4 := sumL_le l hc.cntL q hq
  simp only []
  omega
end
/-- A call of a digest: which, and of what. -/
abbrev Op := Int × Int × Int
/-- What a call leaves: of the nodes, and of the bag of all. -/
def opF (K L : Int) (s : List Nd × List Nd) (o : Op) : List Nd × List Nd :=
  if o.1 = 1 then ((pressF L K s.1).1, s.2) else if o.1 = 2 then ([], []) else if insE L o.2.1 o.2.2 (sumL s.1) = 0 then (insF L K o.2.1 o.2.2 s.1, BagM.put o.2.1 o.2.2 s.2) else s
def accF (K L : Int) (s : List Nd × List Nd) : List Op → List Nd × List Nd
  | [] => s
  | o :: r => accF K L (opF K L s o) r
theorem opF_one {K L : Int} {s : List Nd × List Nd} {o : Op} (h : o.1 = 1) : opF K L s o = ((pressF L K s.1).1, s.2) := if_pos h
theorem opF_two {K L : Int} {s : List Nd × List Nd} {o : Op} (h : o.1 = 2) : opF K L s o = ([], []) := by unfold opF; rw [if_neg (by omega), if_pos h]
theorem opF_ins {K L : Int} {s : List Nd × List Nd} {o : Op} (h1 : o.1 ≠ 1) (h2 : o.1 ≠ 2) (h : insE L o.2.1 o.2.2 (sumL s.1) = 0) : opF K L s o = (insF L K o.2.1 o.2.2 s.1, BagM.put o.2.1 o.2.2 s.2) := by unfold opF; rw [if_neg h1, if_neg h2, if_pos h]
theorem opF_no {K L : Int} {s : List Nd × List Nd} {o : Op} (h1 : o.1 ≠ 1) (h2 : o.1 ≠ 2) (h : insE L o.2.1 o.2.2 (sumL s.1) ≠ 0) : opF K L s o = s := by unfold opF; rw [if_neg h1, if_neg h2, if_neg h]
theorem Inv.op {K L : Int} {s : List Nd × List Nd} {N : Nat} (h : Inv K L s.1 s.2 N) (hL : 1 ≤ L) (hK : 1 ≤ K) (o : Op) : Inv K L (opF K L s o).1 (opF K L s o).2 (N + 1) := by
  by_cases h1 : o.1 = 1
  · rw [opF_one h1]
    exact (h.press hL hK).1.more (by omega)
  · by_cases h2 : o.1 = 2
    · rw [opF_two h2]
      exact Inv.nil hK _
    · by_cases h3 : insE L o.2.1 o.2.2 (sumL s.1) = 0
      · rw [opF_ins h1 h2 h3]
        exact h.insert hL hK h3
      · rw [opF_no h1 h2 h3]
        exact h.more (by omega)
theorem Inv.acc {K L : Int} (hL : 1 ≤ L) (hK : 1 ≤ K) : ∀ (r : List Op) (s : List Nd × List Nd) (N : Nat), Inv K L s.1 s.2 N → Inv K L (accF K L s r).1 (accF K L s r).2 (N + r.length)
  | [], s, N, h => h
  | o :: r, s, N, h => by
    have := Inv.acc hL hK r (opF K L s o) (N + 1) (h.op hL hK o)
    rw [accF]
    exact this.more (by simp only [List.length_cons]; omega)
/-- What is accepted is accepted of the bag. -/
theorem add_of {K L : Int} {l b : List Nd} {N : Nat} (h : Inv K L l b N) {x c : Int} (hi : insE L x c (sumL l) = 0) : BagM.addF L b x c = (BagM.put x c b, 0) ∧ 0 ≤ x ∧ x < pw L ∧ 1 ≤ c ∧ sumL l + c ≤ 72057594037927935 := by
  unfold insE at hi
  have hx : 0 ≤ x ∧ x < pw L := by
    by_cases k : 0 ≤ x ∧ x < pw L
    · exact k
    · rw [if_neg k] at hi; omega
  rw [if_pos hx] at hi
  have hc : ¬ c < 1 := fun k => by rw [if_pos k] at hi; omega
  rw [if_neg hc] at hi
  have hs : ¬ 72057594037927935 < sumL l + c := fun k => by rw [if_pos k] at hi; omega
  have ht := h.tot
  refine ⟨?_, hx.1, hx.2, by omega, by omega⟩
  unfold BagM.addF
  rw [if_neg (by omega), if_neg hc, if_neg (by omega)]
end TopM
end Go.Proofs.YtfjgpjgphdiliaaGreat
