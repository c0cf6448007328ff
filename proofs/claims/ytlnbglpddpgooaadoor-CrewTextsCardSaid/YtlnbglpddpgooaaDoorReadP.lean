/- A set's text is read as the set: plain facts on crew.Read's rows. By the prover of this repo. -/
import Derived.Test.YtlnbglpddpgooaaDoorReadM
namespace Go.Proofs.YtlnbglpddpgooaaDoor

/-- The digits of a sensor, plainly. -/
def dig2 (n : Nat) : List UInt8 := if n < 10 then [dg n] else [dg (n / 10), dg n]
theorem digF_two {n : Nat} (h : n < 100) : digF n = dig2 n := by
  unfold dig2
  by_cases h1 : n < 10
  · rw [digF_small h1, if_pos h1]
  · rw [digF_more h1, digF_small (by omega), if_neg h1]; rfl
theorem digS_nat (n : Nat) : digS (n : Int) = ⟨(digF n).toArray⟩ := by unfold digS; rw [if_neg (by omega)]; simp
theorem digS_two {n : Nat} (h : n < 100) : digS (n : Int) = ⟨(dig2 n).toArray⟩ := by rw [digS_nat, digF_two h]
theorem row_one : ∀ i : Fin 48, rowP ⟨(dig2 i.val).toArray⟩ = some (i.val, i.val) := by decide +kernel
theorem row_two : ∀ i : Fin 48, ∀ e : Fin 48, rowP (⟨(dig2 i.val).toArray⟩ ++ (⟨#[45]⟩ ++ ⟨(dig2 e.val).toArray⟩)) = some (i.val, e.val) := by decide +kernel
theorem nat_end (s : Int) (i : Nat) (h : i < 48) : ∃ e : Nat, endF s i = (e : Int) ∧ i ≤ e ∧ e < 48 := by
  have h1 := endG_ge s 48 (i : Int)
  have h2 := endG_lt s 48 (i : Int) (by omega)
  refine ⟨(endF s i).toNat, ?_, ?_, ?_⟩ <;> unfold endF <;> omega
theorem rowP_rowF (s : Int) (i : Nat) (h : i < 48) : rowP (rowF s i) = some (i, (endF s i).toNat) := by
  obtain ⟨e, he, h1, h2⟩ := nat_end s i h
  unfold rowF
  rw [he, Int.toNat_natCast]
  by_cases hlt : (i : Int) < e
  · rw [if_pos hlt, digS_two (by omega), digS_two (by omega)]
    exact row_two ⟨i, h⟩ ⟨e, h2⟩
  · rw [if_neg hlt, digS_two (by omega), row_one ⟨i, h⟩]
    have : e = i := by omega
    rw [this]
/-- All of a span of sensors is in the set, and the next one is not. -/
theorem endG_all (s : Int) : ∀ (f : Nat) (e j : Int), e < j → j ≤ endG s f e → hasF s j = true
  | 0, e, j, h1, h2 => by rw [endG] at h2; omega
  | f + 1, e, j, h1, h2 => by
    rw [endG] at h2
    split at h2
    · rename_i hs
      by_cases hj : j = e + 1
      · rw [hj]; exact hs
      · exact endG_all s f (e + 1) j (by omega) h2
    · omega
theorem endG_stop (s : Int) : ∀ (f : Nat) (e : Int), (48 - e).toNat ≤ f → hasF s (endG s f e + 1) = false
  | 0, e, h => by rw [endG]; exact has_top s _ (by omega)
  | f + 1, e, h => by
    rw [endG]
    split
    · exact endG_stop s f (e + 1) (by omega)
    · rename_i hs; simpa using hs
theorem endF_all (s : Int) (i : Nat) (j : Int) (hi : hasF s i = true) (h1 : (i : Int) ≤ j) (h2 : j ≤ endF s i) : hasF s j = true := by
  by_cases h : j = i
  · rw [h]; exact hi
  · exact endG_all s 48 i j (by omega) h2
theorem endF_stop (s : Int) (i : Nat) : hasF s (endF s i + 1) = false := endG_stop s 48 i (by omega)
theorem has_nat' (s j : Nat) : hasF (s : Int) (j : Int) = (decide (j < 48) && s.testBit j) := by
  by_cases h : j < 48
  · rw [has_nat s j (by omega) (by omega), decide_eq_true h]; simp
  · rw [has_top _ _ (by omega), decide_eq_false h]; simp
theorem has_neg (s i : Int) (h : i < 0) : hasF s i = false := by unfold hasF; exact decide_eq_false fun k => by omega
theorem with_nat (s i : Nat) (hs : s < 18446744073709551616) (hi : i < 48) : withF (s : Int) (i : Int) = ((s ||| 2 ^ i : Nat) : Int) := by
  rw [← with_bits _ _ (by omega) (by omega)]
  unfold oneF
  rw [if_pos ⟨by omega, by omega⟩, pow_i, Int.toNat_natCast, or_u64 _ _ hs (by have := pow48 i (by omega); rw [Int.toNat_natCast] at this; omega)]
theorem or_lt (s i : Nat) (hs : s < 281474976710656) (hi : i < 48) : s ||| 2 ^ i < 281474976710656 := by
  have := Nat.or_lt_two_pow (n := 48) (x := s) (y := 2 ^ i) hs (Nat.pow_lt_pow_right (by omega) hi)
  exact this
theorem addF_bits : ∀ (k s i : Nat), s < 281474976710656 → i + k ≤ 48 → ∃ r : Nat, addF k (s : Int) (i : Int) = (r : Int) ∧ r < 281474976710656 ∧ ∀ j, r.testBit j = (s.testBit j || decide (i ≤ j ∧ j < i + k))
  | 0, s, i, hs, _ => ⟨s, rfl, hs, fun j => by rw [decide_eq_false (by omega)]; simp⟩
  | k + 1, s, i, hs, hik => by
    rw [addF_succ, with_nat s i (by omega) (by omega)]
    obtain ⟨r, h1, h2, h3⟩ := addF_bits k (s ||| 2 ^ i) (i + 1) (or_lt s i hs (by omega)) (by omega)
    refine ⟨r, by rw [← h1]; rfl, h2, fun j => ?_⟩
    rw [h3 j, Nat.testBit_or, Nat.testBit_two_pow, Bool.or_assoc]
    congr 1
    rw [Bool.eq_iff_iff]
    simp only [Bool.or_eq_true, decide_eq_true_eq]
    omega
theorem spanF_bits (s i e : Nat) (hs : s < 281474976710656) (h1 : i ≤ e) (h2 : e < 48) : ∃ r : Nat, spanF (s : Int) (i, e) = (r : Int) ∧ r < 281474976710656 ∧ ∀ j, r.testBit j = (s.testBit j || decide (i ≤ j ∧ j ≤ e)) := by
  obtain ⟨r, k1, k2, k3⟩ := addF_bits (e + 1 - i) s i hs (by omega)
  refine ⟨r, k1, k2, fun j => ?_⟩
  rw [k3 j]
  congr 1
  apply decide_eq_decide.2
  omega
/-- Some spans of a set read: just the bits of these spans. -/
theorem parse_rows (s : Nat) : ∀ (l : List Nat) (r : Nat), r < 281474976710656 → (∀ x ∈ l, x < 48) →
    ∃ q : Nat, parseG (r : Int) (l.map (rowF (s : Int))) = some (q : Int) ∧ q < 281474976710656 ∧ ∀ j, q.testBit j = (r.testBit j || l.any fun x => decide (x ≤ j ∧ (j : Int) ≤ endF (s : Int) x))
  | [], r, hr, _ => ⟨r, rfl, hr, fun j => by simp⟩
  | x :: l, r, hr, hl => by
    have hx := hl x (by simp)
    obtain ⟨e, he, h1, h2⟩ := nat_end (s : Int) x hx
    obtain ⟨r2, k1, k2, k3⟩ := spanF_bits r x e hr h1 h2
    obtain ⟨q, q1, q2, q3⟩ := parse_rows s l r2 k2 (fun y hy => hl y (by simp [hy]))
    refine ⟨q, ?_, q2, fun j => ?_⟩
    · rw [List.map_cons, parseG_on (rowP_rowF s x hx), he, Int.toNat_natCast, k1, q1]
    · rw [q3 j, k3 j, List.any_cons, he, Bool.or_assoc]
      congr 2
      apply decide_eq_decide.2
      omega
/-- The heads of a set's spans. -/
def headsL (s : Nat) : List Nat := (bitsL s).filter fun i : Nat => !hasF (s : Int) ((i : Int) - 1)
theorem heads_any (s : Nat) (hs : s < 281474976710656) (j : Nat) : ((headsL s).any fun x => decide (x ≤ j ∧ (j : Int) ≤ endF (s : Int) x)) = s.testBit j := by
  rw [Bool.eq_iff_iff, List.any_eq_true]
  constructor
  · rintro ⟨x, hx, h⟩
    have h := of_decide_eq_true h
    unfold headsL at hx
    obtain ⟨hx, _⟩ := List.mem_filter.1 hx
    obtain ⟨hx1, hx2⟩ := bitsL_mem.1 hx
    have := endF_all (s : Int) x j (by rw [has_nat', hx2, decide_eq_true hx1]; rfl) (by omega) h.2
    rw [has_nat'] at this
    simpa using (by rw [Bool.and_eq_true] at this; exact this.2)
  · induction j with
    | zero =>
      intro h
      have hm : (0 : Nat) ∈ headsL s := List.mem_filter.2 ⟨bitsL_mem.2 ⟨by omega, h⟩, by rw [has_neg _ _ (by omega)]; rfl⟩
      exact ⟨0, hm, decide_eq_true ⟨Nat.le_refl _, endG_ge _ _ _⟩⟩
    | succ j ih =>
      intro h
      have hj : j + 1 < 48 := by
        refine Nat.not_le.1 fun k => ?_
        rw [Nat.testBit_lt_two_pow (Nat.lt_of_lt_of_le hs (by rw [show (281474976710656 : Nat) = 2 ^ 48 from rfl]; exact Nat.pow_le_pow_right (by omega) k))] at h
        cases h
      by_cases hp : s.testBit j = true
      · obtain ⟨x, hx, h2⟩ := ih hp
        have h2 := of_decide_eq_true h2
        refine ⟨x, hx, decide_eq_true ⟨by omega, ?_⟩⟩
        by_cases he : endF (s : Int) x = j
        · have h3 := endF_stop (s : Int) x
          rw [he, show ((j : Int) + 1) = ((j + 1 : Nat) : Int) by omega, has_nat', h, decide_eq_true hj] at h3
          cases h3
        · omega
      · refine ⟨j + 1, List.mem_filter.2 ⟨bitsL_mem.2 ⟨hj, h⟩, ?_⟩, decide_eq_true ⟨Nat.le_refl _, endG_ge _ _ _⟩⟩
        rw [show ((j + 1 : Nat) : Int) - 1 = (j : Int) by omega, has_nat', Bool.eq_false_iff.2 hp]
        simp
theorem parse_back (s : Nat) (hs : s < 281474976710656) : parseG 0 (rowsF (s : Int) (bitsL s)) = some (s : Int) := by
  obtain ⟨q, h1, _, h3⟩ := parse_rows s (headsL s) 0 (by omega) (fun x hx => bitsL_lt (List.mem_filter.1 hx).1)
  have : q = s := Nat.eq_of_testBit_eq fun j => by rw [h3 j, heads_any s hs j, Nat.zero_testBit, Bool.false_or]
  rw [this] at h1
  exact h1
theorem two_clean : ∀ n : Fin 48, ∀ c ∈ dig2 n.val, c ≠ 44 := by decide +kernel
theorem row_clean (s : Int) (i : Nat) (h : i < 48) : ∀ c ∈ (rowF s i).data.toList, c ≠ 44 := by
  obtain ⟨e, he, h1, h2⟩ := nat_end s i h
  unfold rowF
  rw [he]
  split
  · rw [digS_two (by omega), digS_two (by omega)]
    intro c hc
    rw [ByteArray.data_append, ByteArray.data_append, Array.toList_append, Array.toList_append] at hc
    rcases List.mem_append.1 hc with hc | hc
    · exact two_clean ⟨i, h⟩ c (by simpa using hc)
    · rcases List.mem_append.1 hc with hc | hc
      · have : c = 45 := by simpa using hc
        rw [this]; decide
      · exact two_clean ⟨e, h2⟩ c (by simpa using hc)
  · rw [digS_two (by omega)]
    intro c hc
    exact two_clean ⟨i, h⟩ c (by simpa using hc)
theorem split_join : ∀ (R : List (List UInt8)), R ≠ [] → (∀ r ∈ R, ∀ c ∈ r, c ≠ 44) → splitC [] (Lib.join R [44]) = R
  | [], h, _ => absurd rfl h
  | [r], _, h => by
    rw [Lib.join_cons, show Lib.joinTail [44] ([] : List (List UInt8)) = [] from rfl, List.append_nil, splitC_plain r [] (h r (by simp)), List.nil_append]
  | r :: q :: R, _, h => by
    have ih := split_join (q :: R) (by simp) (fun x hx => h x (by simp [hx]))
    rw [Lib.join_cons, show Lib.joinTail [44] (q :: R) = 44 :: Lib.join (q :: R) [44] by rw [Lib.join_cons]; simp [Lib.joinTail], splitC_app r [] _ (h r (by simp)), List.nil_append, ih]
theorem heads_lt {s x : Nat} (hx : x ∈ headsL s) : x < 48 := bitsL_lt (List.mem_filter.1 hx).1
theorem rowsF_heads (s : Nat) : rowsF (s : Int) (bitsL s) = (headsL s).map (rowF (s : Int)) := rfl
theorem heads_ne (s : Nat) (hs : s < 281474976710656) (h0 : s ≠ 0) : headsL s ≠ [] := fun h => by
  refine h0 (Nat.eq_of_testBit_eq fun j => ?_)
  rw [← heads_any s hs j, h]
  simp
theorem textF_some (s : Nat) (hs : s < 281474976710656) (h0 : s ≠ 0) : (textF s).1 = ⟨(Lib.join ((rowsF (s : Int) (bitsL s)).map (·.data.toList)) [44]).toArray⟩ := by
  unfold textF
  rw [if_pos hs]
  simp only []
  rw [if_neg]
  rw [rowsF_heads]
  intro h
  exact heads_ne s hs h0 (List.map_eq_nil_iff.1 h)
theorem textF_zero : (textF 0).1 = ⟨#[45]⟩ := by
  unfold textF
  rw [if_pos (by omega)]
  simp only []
  rw [if_pos]
  rw [bitsL_zero]; rfl
theorem rows_back (s : Nat) (hs : s < 281474976710656) (h0 : s ≠ 0) : rowsC (textF s).1 = rowsF (s : Int) (bitsL s) := by
  rw [textF_some s hs h0]
  unfold rowsC
  simp only []
  rw [split_join]
  · rw [List.map_map]
    conv => rhs; rw [← List.map_id (rowsF (s : Int) (bitsL s))]
    refine List.map_congr_left fun r _ => ?_
    exact mk_strC r
  · rw [rowsF_heads]
    intro h
    exact heads_ne s hs h0 (List.map_eq_nil_iff.1 (List.map_eq_nil_iff.1 h))
  · intro r hr c hc
    obtain ⟨x, hx, rfl⟩ := List.mem_map.1 hr
    rw [rowsF_heads] at hx
    obtain ⟨i, hi, rfl⟩ := List.mem_map.1 hx
    exact row_clean s i (heads_lt hi) c hc
/-- A set's text, split and read, is the set. -/
theorem parse_text (s : Nat) (hs : s < 281474976710656) (h0 : s ≠ 0) : parseG 0 (rowsC (textF s).1) = some (s : Int) := by rw [rows_back s hs h0, parse_back s hs]
theorem textF_big {s : Nat} (h : ¬ s < 281474976710656) : textF s = (⟨#[]⟩, false) := by unfold textF; rw [if_neg h]
theorem textF_ok (s : Nat) : (textF s).2 = decide (s < 281474976710656) := by
  unfold textF
  split
  · rename_i h; rw [decide_eq_true h]
  · rename_i h; rw [decide_eq_false h]
theorem parse_empty : parseG 0 (rowsC ⟨#[]⟩) = none := by decide +kernel
theorem parse_nil : parseG 0 (rowsC ⟨#[]⟩) = none := parse_empty
/-- What is told is read. -/
theorem read_text (s : Nat) (hs : s < 281474976710656) : readF (textF s).1 = ((s : Int), true) := by
  unfold readF
  by_cases h0 : s = 0
  · subst h0
    rw [if_pos textF_zero]; rfl
  · by_cases hd : (textF s).1 = ⟨#[45]⟩
    · exfalso
      have h := parse_text s hs h0
      rw [hd] at h
      have : parseG 0 (rowsC ⟨#[45]⟩) = none := by decide +kernel
      rw [this] at h; cases h
    · rw [if_neg hd, parse_text s hs h0]
      unfold readG
      simp only [Int.toNat_natCast, if_true]
end Go.Proofs.YtlnbglpddpgooaaDoor
