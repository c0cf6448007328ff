/- How the reference reads a set's text, and that it reads as crew does: plain facts. By the prover of this repo. -/
import Derived.Test.YtlnbglpddpgooaaDoorRefM
namespace Go.Proofs.YtlnbglpddpgooaaDoor

theorem numGo_len : ∀ (l : List UInt8) (n i : Nat) (q : Nat × Nat), numGo n i l = some q → q.2 ≤ i + l.length
  | [], n, i, q, h => by rw [numGo_nil] at h; cases h; simp
  | c :: r, n, i, q, h => by
    by_cases hd : 48 ≤ c.toNat ∧ c.toNat ≤ 57
    · by_cases ho : 9223372036854775807 < 10 * n + (c.toNat - 48)
      · rw [numGo_over hd ho] at h; cases h
      · rw [numGo_on hd ho] at h
        have := numGo_len r _ _ q h
        simp only [List.length_cons]; omega
    · rw [numGo_stop hd] at h
      cases h
      simp
theorem numF_len (l : List UInt8) : (numF l).2.1 ≤ l.length := by
  unfold numF
  cases h : numGo 0 0 l with
  | none => simp [numE]
  | some q =>
    have := numGo_len _ _ _ q h
    obtain ⟨n, i⟩ := q
    unfold numE
    simp only []
    split
    · simp
    · simp at this ⊢; omega
theorem numGo_on' : ∀ (l r : List UInt8) (n i : Nat) (q : Nat × Nat), numGo n i l = some q → q.2 = i + l.length → numGo n i (l ++ r) = numGo q.1 q.2 r
  | [], r, n, i, q, h, _ => by rw [numGo_nil] at h; cases h; rfl
  | c :: l, r, n, i, q, h, hq => by
    by_cases hd : 48 ≤ c.toNat ∧ c.toNat ≤ 57
    · by_cases ho : 9223372036854775807 < 10 * n + (c.toNat - 48)
      · rw [numGo_over hd ho] at h; cases h
      · rw [numGo_on hd ho] at h
        rw [List.cons_append, numGo_on hd ho]
        exact numGo_on' l r _ _ q h (by rw [hq, List.length_cons]; omega)
    · rw [numGo_stop hd] at h
      cases h
      simp at hq
theorem two_go : ∀ n : Fin 48, numGo 0 0 (dig2 n.val) = some (n.val, (dig2 n.val).length) := by decide +kernel
theorem two_e : ∀ n : Fin 48, ¬ ((dig2 n.val).length = 0 ∨ (1 < (dig2 n.val).length ∧ (dig2 n.val).head? = some 48)) := by decide +kernel
theorem dig2_ne (n : Nat) : dig2 n ≠ [] := by unfold dig2; split <;> simp
theorem numF_two (n : Nat) (hn : n < 48) (T : List UInt8) (hT : ∀ c r, T = c :: r → ¬ (48 ≤ c.toNat ∧ c.toNat ≤ 57)) : numF (dig2 n ++ T) = (n, (dig2 n).length, true) := by
  have hh : (dig2 n ++ T).head? = (dig2 n).head? := by
    cases h : dig2 n with
    | nil => exact absurd h (dig2_ne n)
    | cons c r => rfl
  have hg : numGo 0 0 (dig2 n ++ T) = some (n, (dig2 n).length) := by
    rw [numGo_on' _ T _ _ _ (two_go ⟨n, hn⟩) (by simp)]
    cases T with
    | nil => rw [numGo_nil]
    | cons c r => rw [numGo_stop (hT c r rfl)]
  unfold numF
  rw [hg]
  unfold numE
  simp only []
  rw [hh, if_neg (two_e ⟨n, hn⟩)]

/-- Behind a row: the end, or a comma and more. -/
def rdT (g : Int → List UInt8 → Option Int) (s : Int) : List UInt8 → Option Int
  | [] => some s
  | c :: r => if c = 44 then g s r else none
/-- Behind a row's first number. -/
def rdD (g : Int → List UInt8 → Option Int) (s : Int) (n : Nat) : List UInt8 → Option Int
  | [] => some (spanF s (n, n))
  | c :: r => if c = 45 then (if (numF r).2.2 = true ∧ (numF r).1 < 48 then rdT g (spanF s (n, (numF r).1)) (r.drop (numF r).2.1) else none) else rdT g (spanF s (n, n)) (c :: r)
theorem rdT_nil (g : Int → List UInt8 → Option Int) (s : Int) : rdT g s [] = some s := rfl
theorem rdT_cons (g : Int → List UInt8 → Option Int) (s : Int) (c : UInt8) (r : List UInt8) : rdT g s (c :: r) = if c = 44 then g s r else none := rfl
theorem rdD_nil (g : Int → List UInt8 → Option Int) (s : Int) (n : Nat) : rdD g s n [] = some (spanF s (n, n)) := rfl
theorem rdD_cons (g : Int → List UInt8 → Option Int) (s : Int) (n : Nat) (c : UInt8) (r : List UInt8) : rdD g s n (c :: r) = if c = 45 then (if (numF r).2.2 = true ∧ (numF r).1 < 48 then rdT g (spanF s (n, (numF r).1)) (r.drop (numF r).2.1) else none) else rdT g (spanF s (n, n)) (c :: r) := rfl
/-- What the reference reads. -/
def rdG : Nat → Int → List UInt8 → Option Int
  | 0, _, _ => none
  | f + 1, s, l => if (numF l).2.2 = true ∧ (numF l).1 < 48 then rdD (rdG f) s (numF l).1 (l.drop (numF l).2.1) else none
theorem rdG_succ (f : Nat) (s : Int) (l : List UInt8) : rdG (f + 1) s l = if (numF l).2.2 = true ∧ (numF l).1 < 48 then rdD (rdG f) s (numF l).1 (l.drop (numF l).2.1) else none := rfl
theorem rowF_list (s : Int) (i e : Nat) (hi : i < 48) (he : endF s i = (e : Int)) (h1 : i ≤ e) (h2 : e < 48) : (rowF s i).data.toList = dig2 i ++ if i < e then 45 :: dig2 e else [] := by
  unfold rowF
  rw [he]
  by_cases h : i < e
  · rw [if_pos (by omega), if_pos h, digS_two (by omega), digS_two (by omega)]
    simp [ByteArray.data_append]
  · rw [if_neg (by omega), if_neg h, digS_two (by omega)]
    simp
theorem rd_row (f : Nat) (S s : Int) (i : Nat) (hi : i < 48) (T : List UInt8) (hT : ∀ c r, T = c :: r → c = 44) : rdG (f + 1) S ((rowF s i).data.toList ++ T) = rdT (rdG f) (spanF S (i, (endF s i).toNat)) T := by
  obtain ⟨e, he, h1, h2⟩ := nat_end s i hi
  rw [rowF_list s i e hi he h1 h2, he, Int.toNat_natCast, rdG_succ]
  have hT2 : ∀ c r, T = c :: r → ¬ (48 ≤ c.toNat ∧ c.toNat ≤ 57) := fun c r h => by rw [hT c r h]; decide
  by_cases h : i < e
  · rw [if_pos h, List.append_assoc, List.cons_append]
    have hF := numF_two i hi (45 :: (dig2 e ++ T)) (fun c r hc => by cases hc; decide)
    rw [hF, if_pos ⟨rfl, hi⟩]
    simp only []
    rw [List.drop_left]
    rw [rdD_cons, if_pos rfl]
    have hF2 := numF_two e h2 T hT2
    rw [hF2, if_pos ⟨rfl, h2⟩]
    simp only []
    rw [List.drop_left]
  · have : e = i := by omega
    subst this
    rw [if_neg h, List.append_nil]
    have hF := numF_two e hi T hT2
    rw [hF, if_pos ⟨rfl, hi⟩]
    simp only []
    rw [List.drop_left]
    cases T with
    | nil => rfl
    | cons c r =>
      have := hT c r rfl
      subst this
      rw [rdD_cons, if_neg (by decide)]
theorem rd_rows (s : Int) : ∀ (l : List Nat) (f : Nat) (S : Int), l ≠ [] → l.length ≤ f → (∀ x ∈ l, x < 48) → rdG f S (Lib.join ((l.map (rowF s)).map (·.data.toList)) [44]) = parseG S (l.map (rowF s))
  | [], _, _, h, _, _ => absurd rfl h
  | [x], f, S, _, hf, hl => by
    obtain ⟨f, rfl⟩ : ∃ g, f = g + 1 := ⟨f - 1, by simp at hf; omega⟩
    have := rd_row f S s x (hl x (by simp)) [] (fun c r h => by cases h)
    rw [List.append_nil] at this
    simp only [List.map_cons, List.map_nil]
    rw [Lib.join_one, this, parseG_on (rowP_rowF s x (hl x (by simp))), parseG_nil]
    rfl
  | x :: y :: l, f, S, _, hf, hl => by
    obtain ⟨f, rfl⟩ : ∃ g, f = g + 1 := ⟨f - 1, by simp at hf; omega⟩
    have ih := rd_rows s (y :: l) f (spanF S (x, (endF s x).toNat)) (by simp) (by simp at hf ⊢; omega) (fun z hz => hl z (by simp [hz]))
    have hj : Lib.join (((x :: y :: l).map (rowF s)).map (·.data.toList)) [44] = (rowF s x).data.toList ++ 44 :: Lib.join (((y :: l).map (rowF s)).map (·.data.toList)) [44] := by
      simp only [List.map_cons]
      rw [Lib.join_cons, Lib.join_cons]
      simp [Lib.joinTail]
    rw [hj, rd_row f S s x (hl x (by simp)) _ (fun c r h => by cases h; rfl), rdT_cons, if_pos rfl, ih, List.map_cons, List.map_cons, List.map_cons, parseG_on (rowP_rowF s x (hl x (by simp)))]
theorem spanF_bd (s : Int) (p : Nat × Nat) (h0 : 0 ≤ s) (h1 : s < 18446744073709551616) : 0 ≤ spanF s p ∧ spanF s p < 18446744073709551616 := addF_bd _ _ _ h0 h1
theorem rdG_bd : ∀ (f : Nat) (s : Int) (l : List UInt8) (q : Int), 0 ≤ s → s < 18446744073709551616 → rdG f s l = some q → 0 ≤ q ∧ q < 18446744073709551616
  | 0, _, _, _, _, _, h => by cases h
  | f + 1, s, l, q, h0, h1, h => by
    have hT : ∀ (s' : Int) (r : List UInt8), 0 ≤ s' → s' < 18446744073709551616 → rdT (rdG f) s' r = some q → 0 ≤ q ∧ q < 18446744073709551616 := fun s' r k0 k1 k => by
      cases r with
      | nil => cases k; exact ⟨k0, k1⟩
      | cons c r =>
        rw [rdT_cons] at k
        split at k
        · exact rdG_bd f s' r q k0 k1 k
        · cases k
    rw [rdG_succ] at h
    split at h
    · generalize (numF l).1 = n at h
      cases hr : l.drop (numF l).2.1 with
      | nil =>
        rw [hr, rdD_nil] at h
        cases h
        exact spanF_bd s _ h0 h1
      | cons c r =>
        rw [hr] at h
        rw [rdD_cons] at h
        split at h
        · split at h
          · exact hT _ _ (spanF_bd s _ h0 h1).1 (spanF_bd s _ h0 h1).2 h
          · cases h
        · exact hT _ _ (spanF_bd s _ h0 h1).1 (spanF_bd s _ h0 h1).2 h
    · cases h
/-- The reference's answer for a text. -/
def readR (t : ByteArray) : Int × Bool := if t = ⟨#[45]⟩ then (0, true) else readG t (rdG (t.size + 1) 0 t.data.toList)
theorem rd_text (s : Nat) (hs : s < 281474976710656) (h0 : s ≠ 0) : rdG ((textF s).1.size + 1) 0 (textF s).1.data.toList = some (s : Int) := by
  have hb := parse_back s hs
  have ht := textF_some s hs h0
  have hne := heads_ne s hs h0
  rw [rowsF_heads] at hb ht
  have hlen : (headsL s).length ≤ (textF s).1.size + 1 := by
    have h1 := (rowsC_pos (textF s).1).2
    rw [rows_back s hs h0, rowsF_heads, List.length_map] at h1
    exact h1
  rw [← hb, ← rd_rows (s : Int) (headsL s) ((textF s).1.size + 1) 0 hne hlen (fun x hx => heads_lt hx)]
  conv => lhs; rw [ht]
  rw [ht]
theorem rd_empty : rdG 1 0 [] = none := by decide +kernel
theorem readG_cases (t : ByteArray) (X : Option Int) (hX : ∀ q, X = some q → 0 ≤ q) : (∃ s : Nat, X = some (s : Int) ∧ (textF s).1 = t ∧ readG t X = ((s : Int), true)) ∨ readG t X = (0, false) := by
  cases X with
  | none => exact .inr rfl
  | some q =>
    obtain ⟨s, rfl⟩ := Int.eq_ofNat_of_zero_le (hX q rfl)
    unfold readG
    simp only [Int.toNat_natCast]
    by_cases h : (textF s).1 = t
    · rw [if_pos h]; exact .inl ⟨s, rfl, h, rfl⟩
    · rw [if_neg h]; exact .inr rfl
/-- The reference reads what crew reads. -/
theorem readR_readF (t : ByteArray) : readR t = readF t := by
  unfold readR readF
  by_cases hd : t = ⟨#[45]⟩
  · rw [if_pos hd, if_pos hd]
  · rw [if_neg hd, if_neg hd]
    have hA := readG_cases t (rdG (t.size + 1) 0 t.data.toList) (fun q h => (rdG_bd _ _ _ q (by omega) (by omega) h).1)
    have hB := readG_cases t (parseG 0 (rowsC t)) (fun q h => (parseG_bd _ _ q (by omega) (by omega) h).1)
    -- a text that is some set's own is read as this set both ways
    have key : ∀ s : Nat, (textF s).1 = t → readG t (rdG (t.size + 1) 0 t.data.toList) = readG t (parseG 0 (rowsC t)) := fun s h => by
      by_cases hs : s < 281474976710656
      · by_cases h0 : s = 0
        · subst h0
          rw [textF_zero] at h
          exact absurd h.symm hd
        · have h1 := rd_text s hs h0
          have h2 := parse_text s hs h0
          rw [h] at h1 h2
          rw [h1, h2]
      · rw [textF_big hs] at h
        simp only [] at h
        subst h
        rw [parse_nil]
        show readG _ (rdG 1 0 []) = _
        rw [rd_empty]
    rcases hA with ⟨s, _, h, _⟩ | hA
    · exact key s h
    · rcases hB with ⟨s, _, h, _⟩ | hB
      · exact key s h
      · rw [hA, hB]
end Go.Proofs.YtlnbglpddpgooaaDoor
