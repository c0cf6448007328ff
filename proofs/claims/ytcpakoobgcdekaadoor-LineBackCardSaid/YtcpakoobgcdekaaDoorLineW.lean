/- What is written is read, what is read is written: plain facts. By the prover of this repo. -/
import Derived.Test.YtcpakoobgcdekaaDoorLineV
namespace Go.Proofs.YtcpakoobgcdekaaDoor

theorem dg_rng (n : Nat) : 48 ≤ (dg n).toNat ∧ (dg n).toNat ≤ 57 := by rw [dg_val]; have := Nat.mod_lt n (show 0 < 10 by omega); omega
theorem numGo_app : ∀ (l r : List UInt8) (n i : Nat) (q : Nat × Nat), numGo n i l = some q → q.2 = i + l.length → numGo n i (l ++ r) = numGo q.1 q.2 r
  | [], r, n, i, q, h, _ => by rw [numGo_nil] at h; cases h; rfl
  | c :: l, r, n, i, q, h, hq => by
    by_cases hd : 48 ≤ c.toNat ∧ c.toNat ≤ 57
    · by_cases ho : 9223372036854775807 < 10 * n + (c.toNat - 48)
      · rw [numGo_over hd ho] at h; cases h
      · rw [numGo_on hd ho] at h
        rw [List.cons_append, numGo_on hd ho]
        exact numGo_app l r _ _ q h (by rw [hq, List.length_cons]; omega)
    · rw [numGo_stop hd] at h
      cases h
      simp at hq
theorem numGo_digF : ∀ (n : Nat), n ≤ 9223372036854775807 → numGo 0 0 (digF n) = some (n, (digF n).length) := by
  intro n
  induction n using Nat.strongRecOn with
  | ind n ih =>
    intro hn
    by_cases h : n < 10
    · rw [digF_small h]
      have hd := dg_rng n
      rw [numGo_on hd (by rw [dg_val]; omega), numGo_nil, dg_val]
      simp
      omega
    · rw [digF_more h]
      have h1 := ih (n / 10) (by omega) (by omega)
      rw [numGo_app _ _ _ _ _ h1 (by simp)]
      have hd := dg_rng n
      have hv := dg_val n
      rw [numGo_on hd (by simp only []; omega), numGo_nil]
      have e : 10 * (n / 10) + ((dg n).toNat - 48) = n := by omega
      simp only [e, List.length_append, List.length_cons, List.length_nil]
theorem digF_head : ∀ (n : Nat), (digF n).head? = some 48 → n = 0 := by
  intro n
  induction n using Nat.strongRecOn with
  | ind n ih =>
    intro h
    by_cases h1 : n < 10
    · rw [digF_small h1] at h
      have h := Option.some.inj h
      have hv := dg_val n
      rw [h] at hv
      have : (48 : UInt8).toNat = 48 := rfl
      omega
    · rw [digF_more h1] at h
      have hne := digF_ne (n / 10)
      cases hd : digF (n / 10) with
      | nil => exact absurd hd hne
      | cons c r =>
        rw [hd] at h
        have := ih (n / 10) (by omega) (by rw [hd]; exact h)
        omega
theorem numW_digS {n : Int} (h0 : 0 ≤ n) (h1 : n ≤ 9223372036854775807) : numW (digS n) = some n := by
  obtain ⟨n, rfl⟩ := Int.eq_ofNat_of_zero_le h0
  have hl : (digS (n : Int)).data.toList = digF n := by
    unfold digS
    rw [if_neg (by omega)]
    simp
  have hz : (digS (n : Int)).size = (digF n).length := by rw [← len_size, hl]
  have hp := List.length_pos_iff.2 (digF_ne n)
  have hF : numF (digF n) = (n, (digF n).length, true) := by
    unfold numF
    rw [numGo_digF n (by omega)]
    unfold numE
    simp only []
    rw [if_neg]
    rintro (h | ⟨h, k⟩)
    · omega
    · have := digF_head n k
      subst this
      rw [digF_small (by omega)] at h
      simp at h
  unfold numW
  rw [hl, hF, hz, if_pos ⟨rfl, rfl⟩]
theorem numGo_split : ∀ (l : List UInt8) (c : UInt8) (n i : Nat) (q : Nat × Nat), numGo n i (l ++ [c]) = some q → q.2 = i + l.length + 1 →
    ∃ n', numGo n i l = some (n', i + l.length) ∧ (48 ≤ c.toNat ∧ c.toNat ≤ 57) ∧ q.1 = 10 * n' + (c.toNat - 48)
  | [], c, n, i, q, h, hq => by
    rw [List.nil_append] at h
    by_cases hd : 48 ≤ c.toNat ∧ c.toNat ≤ 57
    · by_cases ho : 9223372036854775807 < 10 * n + (c.toNat - 48)
      · rw [numGo_over hd ho] at h; cases h
      · rw [numGo_on hd ho, numGo_nil] at h
        cases h
        exact ⟨n, by rw [numGo_nil]; rfl, hd, rfl⟩
    · rw [numGo_stop hd] at h
      cases h
      simp at hq
  | x :: l, c, n, i, q, h, hq => by
    rw [List.cons_append] at h
    by_cases hd : 48 ≤ x.toNat ∧ x.toNat ≤ 57
    · by_cases ho : 9223372036854775807 < 10 * n + (x.toNat - 48)
      · rw [numGo_over hd ho] at h; cases h
      · rw [numGo_on hd ho] at h
        obtain ⟨n', h1, h2, h3⟩ := numGo_split l c _ _ q h (by rw [hq, List.length_cons]; omega)
        exact ⟨n', by rw [numGo_on hd ho, h1, List.length_cons]; congr 2; omega, h2, h3⟩
    · rw [numGo_stop hd] at h
      cases h
      simp at hq
      omega
/-- A number's own text: all digits, and no nought ahead. -/
theorem digF_val : ∀ (k : Nat) (l : List UInt8) (n : Nat), l.length = k + 1 → numGo 0 0 l = some (n, l.length) → (1 < l.length → l.head? ≠ some 48) → digF n = l
  | 0, l, n, hl, h, _ => by
    obtain ⟨c, rfl⟩ := List.length_eq_one_iff.1 hl
    obtain ⟨n', h1, h2, h3⟩ := numGo_split [] c 0 0 _ h rfl
    rw [numGo_nil] at h1
    cases h1
    simp only [] at h3
    rw [digF_small (by omega)]
    congr 1
    rw [← UInt8.toNat_inj, dg_val]
    omega
  | k + 1, l, n, hl, h, hz => by
    have hne : l ≠ [] := fun e => by rw [e] at hl; simp at hl
    obtain ⟨l', c, rfl⟩ : ∃ l' c, l = l' ++ [c] := ⟨l.dropLast, l.getLast hne, (List.dropLast_concat_getLast hne).symm⟩
    rw [List.length_append, List.length_cons, List.length_nil] at hl
    obtain ⟨n', h1, h2, h3⟩ := numGo_split l' c 0 0 _ h (by simp)
    rw [Nat.zero_add] at h1
    simp only [] at h3
    have hl' : l'.length = k + 1 := by omega
    have hh : l'.head? ≠ some 48 := by
      have := hz (by simp; omega)
      cases l' with
      | nil => simp at hl'
      | cons x r => simpa using this
    have ih := digF_val k l' n' hl' h1 (fun _ => hh)
    have hn' : n' ≠ 0 := fun e => by
      subst e
      rw [← ih, digF_small (by omega)] at hh
      exact hh (by decide)
    rw [digF_more (by omega), show n / 10 = n' by omega, ih]
    congr 2
    rw [← UInt8.toNat_inj, dg_val]
    omega
theorem digS_of {t : ByteArray} {n : Int} (h : numW t = some n) : digS n = t := by
  unfold numW at h
  split at h
  · rename_i hc
    obtain ⟨h1, h2⟩ := hc
    have h := Option.some.inj h
    subst h
    unfold numF at h1 h2 ⊢
    cases hg : numGo 0 0 t.data.toList with
    | none => rw [hg] at h1; simp [numE] at h1
    | some q =>
      obtain ⟨m, i⟩ := q
      rw [hg] at h1 h2
      unfold numE at h1 h2 ⊢
      simp only [] at h1 h2 ⊢
      by_cases hz : i = 0 ∨ (1 < i ∧ t.data.toList.head? = some 48)
      · rw [if_pos hz] at h1; cases h1
      · rw [if_neg hz] at h2 ⊢
        simp only [] at h2 ⊢
        have hi0 : i ≠ 0 := fun e => hz (.inl e)
        have hlen : t.data.toList.length = i := by rw [len_size, h2]
        have hd := digF_val (i - 1) t.data.toList m (by omega) (by rw [hg, hlen]) (fun h1 h => hz (.inr ⟨by omega, h⟩))
        apply str_ext
        unfold digS
        rw [if_neg (by omega), Int.toNat_natCast, hd]
  · cases h
theorem numsGo_map : ∀ (r : List ByteArray) (acc l : List Int), numsGo acc r = some l → l.map digS = acc.map digS ++ r
  | [], acc, l, h => by rw [numsGo_nil] at h; cases h; simp
  | t :: r, acc, l, h => by
    cases hn : numW t with
    | none => rw [numsGo_bad hn] at h; cases h
    | some n =>
      rw [numsGo_on hn] at h
      rw [numsGo_map r _ l h, List.map_append, List.append_assoc]
      simp [digS_of hn]
theorem numsGo_dig : ∀ (l acc : List Int), (∀ n ∈ l, 0 ≤ n ∧ n ≤ 9223372036854775807) → numsGo acc (l.map digS) = some (acc ++ l)
  | [], acc, _ => by rw [List.map_nil, numsGo_nil, List.append_nil]
  | n :: l, acc, h => by
    have hn := h n (by simp)
    rw [List.map_cons, numsGo_on (numW_digS hn.1 hn.2), numsGo_dig l _ (fun x hx => h x (by simp [hx]))]
    simp
theorem join_cons2 (x y : List UInt8) (R : List (List UInt8)) : Lib.join (x :: y :: R) [32] = x ++ 32 :: Lib.join (y :: R) [32] := by
  rw [Lib.join_cons, Lib.join_cons]
  simp [Lib.joinTail]
theorem join_one (x : List UInt8) : Lib.join [x] [32] = x := by rw [Lib.join_cons]; simp [Lib.joinTail]
theorem join_split : ∀ (r acc : List UInt8), Lib.join (splitW acc r) [32] = acc ++ r
  | [], acc => by rw [splitW_nil, join_one, List.append_nil]
  | c :: r, acc => by
    by_cases h : c = 32
    · subst h
      rw [splitW_blank]
      have ih := join_split r []
      cases hs : splitW [] r with
      | nil => have := (splitW_pos r []).1; rw [hs] at this; simp at this
      | cons y R =>
        rw [hs] at ih
        rw [join_cons2, ih, List.nil_append]
    · rw [splitW_on acc h, join_split r _]
      simp
theorem split_join : ∀ (P : List (List UInt8)), P ≠ [] → (∀ p ∈ P, ∀ c ∈ p, c ≠ 32) → splitW [] (Lib.join P [32]) = P
  | [], h, _ => absurd rfl h
  | [x], _, h => by rw [join_one, splitW_plain _ _ (h x (by simp)), List.nil_append]
  | x :: y :: R, _, h => by
    rw [join_cons2, splitW_app _ _ _ (h x (by simp)), List.nil_append, split_join (y :: R) (by simp) (fun p hp => h p (by simp at hp ⊢; exact .inr hp))]
theorem join_words (s : ByteArray) : (⟨(Lib.join ((wordsOf s).map (·.data.toList)) [32]).toArray⟩ : ByteArray) = s := by
  have e : (wordsOf s).map (·.data.toList) = splitW [] s.data.toList := by unfold wordsOf; rw [List.map_map]; exact List.map_id _
  rw [e, join_split, List.nil_append]
theorem words_join (R : List ByteArray) (hne : R ≠ []) (h : ∀ p ∈ R, ∀ c ∈ p.data.toList, c ≠ 32) : wordsOf ⟨(Lib.join (R.map (·.data.toList)) [32]).toArray⟩ = R := by
  unfold wordsOf
  rw [show (⟨(Lib.join (R.map (·.data.toList)) [32]).toArray⟩ : ByteArray).data.toList = Lib.join (R.map (·.data.toList)) [32] by simp, split_join _ (by simpa using hne) (fun p hp => by
    obtain ⟨q, hq, rfl⟩ := List.mem_map.1 hp
    exact h q hq), List.map_map]
  refine Eq.trans (List.map_congr_left fun x _ => mk_str x) (List.map_id R)
theorem nameGo_no : ∀ (l : List UInt8) (i : Nat), nameGo i l = true → ∀ c ∈ l, c ≠ 32
  | [], _, _, c, h => by cases h
  | x :: l, i, h, c, hc => by
    simp only [nameGo, Bool.and_eq_true] at h
    rcases List.mem_cons.1 hc with rfl | hc
    · intro e
      subst e
      have := of_decide_eq_true h.1
      have e : (32 : UInt8).toNat = 32 := rfl
      omega
    · exact nameGo_no l _ h.2 c hc
theorem opt_no {s : ByteArray} {b : Bool} (h : nameOk s b = true) : ∀ p ∈ opt s, ∀ c ∈ p.data.toList, c ≠ 32 := fun p hp => by
  rw [opt_ok h] at hp
  cases b
  · simp at hp
  · simp at hp
    subst hp
    unfold nameOk at h
    rw [if_pos rfl] at h
    unfold nameF at h
    rw [Bool.and_eq_true] at h
    exact nameGo_no _ 0 h.2
theorem digF_no : ∀ (n : Nat), ∀ c ∈ digF n, c ≠ 32 := by
  intro n
  induction n using Nat.strongRecOn with
  | ind n ih =>
    intro c hc e
    have hd := dg_rng n
    by_cases h : n < 10
    · rw [digF_small h] at hc
      simp at hc
      rw [← hc, e] at hd
      have : (32 : UInt8).toNat = 32 := rfl
      omega
    · rw [digF_more h] at hc
      rcases List.mem_append.1 hc with hc | hc
      · exact ih (n / 10) (by omega) c hc e
      · simp at hc
        rw [← hc, e] at hd
        have : (32 : UInt8).toNat = 32 := rfl
        omega
theorem digS_no (n : Int) : ∀ c ∈ (digS n).data.toList, c ≠ 32 := fun c hc => by
  unfold digS at hc
  split at hc
  · simp at hc
  · exact digF_no n.toNat c (by simpa using hc)
theorem wordB_no : ∀ j : Fin 19, ∀ c ∈ (wordB j.1).data.toList, c ≠ 32 := by decide +kernel
theorem wordB_head : ∀ j : Fin 19, 1 ≤ j.1 → (wordB j.1).data.toList.head? ≠ some 35 ∧ (wordB j.1).size ≠ 0 := by decide +kernel
theorem cmdR_parts {o : Int} {x y : ByteArray} {l : List Int} (h : cmdR o x y l = true) : nameOk x (decide (0 < (needF o).1)) = true ∧ nameOk y (decide (1 < (needF o).1)) = true ∧ (needF o).2.1 ≤ l.length ∧ l.length ≤ (needF o).2.2 := by
  unfold cmdR rangeOk at h
  simp only [Bool.and_eq_true, decide_eq_true_eq] at h
  exact ⟨h.2.1, h.2.2.1, h.2.2.2.1.1, h.2.2.2.1.2⟩
theorem textL_size {c : Cmd} (h : cmdR c.1 c.2.1 c.2.2.1 c.2.2.2 = true) (hb : ∀ n ∈ c.2.2.2, n ≤ 9223372036854775807) : (textL c).size ≤ 1407 := by
  obtain ⟨o, x, y, l⟩ := c
  simp only [] at h hb
  obtain ⟨ho0, ho9, hl64, hx12, hy12, _⟩ := cmdR_op h
  obtain ⟨o, rfl⟩ := Int.eq_ofNat_of_zero_le ho0
  have hp : piecesF ((o : Int), x, y, l) = (wordB o :: (opt x ++ opt y)) ++ l.map digS := rfl
  have hj := join_le 20 (piecesF ((o : Int), x, y, l)) (fun r hr => by
    rw [hp] at hr
    rcases List.mem_append.1 hr with h | h
    · rcases List.mem_cons.1 h with rfl | h
      · have := wordB_size ⟨o, by omega⟩; simp only [] at this; omega
      · rcases List.mem_append.1 h with h | h
        · unfold opt at h; split at h
          · cases h
          · simp at h; subst h; omega
        · unfold opt at h; split at h
          · cases h
          · simp at h; subst h; omega
    · obtain ⟨n, hn, rfl⟩ := List.mem_map.1 h
      exact digS_len (hb n hn))
  have hl : (piecesF ((o : Int), x, y, l)).length ≤ 67 := by
    rw [hp]
    have h1 := opt_len x
    have h2 := opt_len y
    simp only [List.length_append, List.length_cons, List.length_map]
    omega
  show (Lib.join _ [32]).toArray.size ≤ 1407
  simp only [List.size_toArray]
  omega
theorem print_ok {c : Cmd} (h : cmdR c.1 c.2.1 c.2.2.1 c.2.2.2 = true) (hb : ∀ n ∈ c.2.2.2, n ≤ 9223372036854775807) : printF c = (textL c, 0) := by
  have := textL_size h hb
  unfold printF
  rw [if_pos h, if_neg (by omega)]
theorem print_no {c : Cmd} (h : cmdR c.1 c.2.1 c.2.2.1 c.2.2.2 = false) : printF c = (⟨#[]⟩, 2) := by
  unfold printF
  rw [if_neg (by rw [h]; decide)]
/-- What is written is read as it was. -/
theorem parse_text {c : Cmd} (h : cmdR c.1 c.2.1 c.2.2.1 c.2.2.2 = true) (hb : ∀ n ∈ c.2.2.2, n ≤ 9223372036854775807) : parseF (textL c) = (c, 0) := by
  have hsz := textL_size h hb
  obtain ⟨o, x, y, l⟩ := c
  simp only [] at h hb
  obtain ⟨ho0, ho9, hl64, hx12, hy12, hpos⟩ := cmdR_op h
  obtain ⟨hnx, hny, hlo, hhi⟩ := cmdR_parts h
  obtain ⟨o, rfl⟩ := Int.eq_ofNat_of_zero_le ho0
  have hp : piecesF ((o : Int), x, y, l) = (wordB o :: (opt x ++ opt y)) ++ l.map digS := rfl
  by_cases h0 : o = 0
  · subst h0
    have hx : x = ByteArray.empty := by
      have : needF ((0 : Nat) : Int) = (0, 0, 0) := by decide
      rw [this] at hnx
      exact of_decide_eq_true hnx
    have hy : y = ByteArray.empty := by
      have : needF ((0 : Nat) : Int) = (0, 0, 0) := by decide
      rw [this] at hny
      exact of_decide_eq_true hny
    have hl : l = [] := by
      have : needF ((0 : Nat) : Int) = (0, 0, 0) := by decide
      rw [this] at hhi
      exact List.eq_nil_of_length_eq_zero (by simpa using hhi)
    subst hx hy hl
    decide +kernel
  · have hno : ∀ p ∈ piecesF ((o : Int), x, y, l), ∀ b ∈ p.data.toList, b ≠ 32 := fun p hpp => by
      rw [hp] at hpp
      rcases List.mem_append.1 hpp with h | h
      · rcases List.mem_cons.1 h with rfl | h
        · exact wordB_no ⟨o, by omega⟩
        · rcases List.mem_append.1 h with h | h
          · exact opt_no hnx p h
          · exact opt_no hny p h
      · obtain ⟨n, _, rfl⟩ := List.mem_map.1 h
        exact digS_no n
    have hw : wordsOf (textL ((o : Int), x, y, l)) = piecesF ((o : Int), x, y, l) := words_join _ (by rw [hp]; simp) hno
    have hhd := wordB_head ⟨o, by omega⟩ (show 1 ≤ o by omega)
    simp only [] at hhd
    have htl : (textL ((o : Int), x, y, l)).data.toList = (wordB o).data.toList ++ Lib.joinTail [32] (((opt x ++ opt y) ++ l.map digS).map (·.data.toList)) := by
      show (Lib.join _ [32]).toArray.toList = _
      rw [hp, List.cons_append, List.map_cons, Lib.join_cons]
    have hne : (wordB o).data.toList ≠ [] := fun e => hhd.2 (by rw [← len_size, e]; rfl)
    have hz0 : (textL ((o : Int), x, y, l)).size ≠ 0 := fun e => by
      rw [← len_size, htl, List.length_append] at e
      exact hne (List.eq_nil_of_length_eq_zero (by omega))
    have hh : (textL ((o : Int), x, y, l)).data.toList.head? ≠ some 35 := by
      rw [htl]
      cases hwb : (wordB o).data.toList with
      | nil => exact absurd hwb hne
      | cons a r => have := hhd.1; rw [hwb] at this; simpa using this
    unfold parseF
    rw [if_neg (by omega), if_neg (fun k => by rcases k with k | k; exact hz0 k; exact hh k), hw]
    have hof : opF (wordB o) = o := (opF_iff (by omega) (by omega)).1 rfl
    have hread : readF (piecesF ((o : Int), x, y, l)) = some ((o : Int), x, y, l) := by
      unfold readF
      have e0 : (piecesF ((o : Int), x, y, l)).getD 0 ByteArray.empty = wordB o := by rw [hp]; rfl
      rw [e0, hof, if_neg h0]
      have hk2 := (need_le (o : Nat)).1
      rw [hp, opt_ok hnx, opt_ok hny]
      have hd := numsGo_dig l [] (fun n hn => ⟨hpos n hn, hb n hn⟩)
      rw [List.nil_append] at hd
      unfold nameOk at hnx hny
      generalize (needF ((o : Nat) : Int)).1 = k at *
      have hkc : k = 0 ∨ k = 1 ∨ k = 2 := by omega
      rcases hkc with rfl | rfl | rfl
      · have hx : x = ByteArray.empty := of_decide_eq_true hnx
        have hy : y = ByteArray.empty := of_decide_eq_true hny
        rw [if_neg (by simp)]
        show finF o _ 0 (numsGo [] (l.map digS)) = _
        rw [hd]
        show (if cmdR o ByteArray.empty ByteArray.empty l = true then some ((o : Int), ByteArray.empty, ByteArray.empty, l) else none) = _
        subst hx hy
        rw [if_pos h]
      · have hy : y = ByteArray.empty := of_decide_eq_true hny
        rw [if_neg (by simp)]
        show finF o _ 1 (numsGo [] (l.map digS)) = _
        rw [hd]
        show (if cmdR o x ByteArray.empty l = true then some ((o : Int), x, ByteArray.empty, l) else none) = _
        subst hy
        rw [if_pos h]
      · rw [if_neg (by simp)]
        show finF o _ 2 (numsGo [] (l.map digS)) = _
        rw [hd]
        show (if cmdR o x y l = true then some ((o : Int), x, y, l) else none) = _
        rw [if_pos h]
    rw [hread]
/-- What is read is written just so. -/
theorem text_parse {s : ByteArray} {c : Cmd} (h : parseF s = (c, 0)) (hs : s.size = 0 ∨ s.data.toList.head? ≠ some 35) : cmdR c.1 c.2.1 c.2.2.1 c.2.2.2 = true ∧ textL c = s := by
  unfold parseF at h
  by_cases h4 : 4096 < s.size
  · rw [if_pos h4] at h; simp at h
  · rw [if_neg h4] at h
    by_cases h0 : s.size = 0
    · rw [if_pos (.inl h0)] at h
      obtain rfl := (congrArg Prod.fst h : cmd0 = c)
      obtain rfl : s = ⟨#[]⟩ := str_ext (by rw [nil_of_size s (by omega)])
      decide +kernel
    · rw [if_neg (fun k => by rcases k with k | k; exact h0 k; exact (hs.resolve_left h0) k)] at h
      have hl := (words_len s).1
      have hj := join_words s
      cases hr : readF (wordsOf s) with
      | none => rw [hr] at h; simp at h
      | some c' =>
        rw [hr] at h
        obtain rfl := (congrArg Prod.fst h : c' = c)
        unfold readF at hr
        generalize wordsOf s = W at *
        cases W with
        | nil => simp at hl
        | cons w0 R =>
          have e0 : (w0 :: R).getD 0 ByteArray.empty = w0 := rfl
          rw [e0] at hr
          by_cases ho : opF w0 = 0
          · rw [if_pos ho] at hr; cases hr
          · rw [if_neg ho] at hr
            have hw : wordB (opF w0) = w0 := (opF_iff (by omega) (opF_lt w0)).2 rfl
            have hk2 := (need_le (opF w0 : Nat)).1
            generalize hon : opF w0 = o at *
            by_cases hk : (w0 :: R).length ≤ (needF ((o : Nat) : Int)).1
            · rw [if_pos hk] at hr; cases hr
            · rw [if_neg hk] at hr
              cases hn : numsGo [] ((w0 :: R).drop (1 + (needF ((o : Nat) : Int)).1)) with
              | none => rw [hn] at hr; cases hr
              | some l =>
                rw [hn] at hr
                unfold finF at hr
                simp only [] at hr
                split at hr
                · rename_i hc
                  have hr := Option.some.inj hr
                  subst hr
                  refine ⟨hc, ?_⟩
                  rw [← hj]
                  obtain ⟨hnx, hny, _, _⟩ := cmdR_parts hc
                  have hm := numsGo_map _ _ _ hn
                  rw [List.map_nil, List.nil_append] at hm
                  have hpc : piecesF ((o : Int), nm1 (w0 :: R) (needF ((o : Nat) : Int)).1, nm2 (w0 :: R) (needF ((o : Nat) : Int)).1, l) = w0 :: R := by
                    show (wordB o :: (opt _ ++ opt _)) ++ l.map digS = _
                    rw [hm, hw, opt_ok hnx, opt_ok hny]
                    clear hn hm hc hnx hny hj h
                    generalize (needF ((o : Nat) : Int)).1 = k at *
                    have hkc : k = 0 ∨ k = 1 ∨ k = 2 := by omega
                    rcases hkc with rfl | rfl | rfl
                    · rfl
                    · match R, hk with
                      | r1 :: R, _ => rfl
                    · match R, hk with
                      | r1 :: r2 :: R, _ => rfl
                      | [r1], hk => simp at hk
                      | [], hk => simp at hk
                  show (⟨(Lib.join ((piecesF _).map (·.data.toList)) [32]).toArray⟩ : ByteArray) = _
                  rw [hpc]
                · cases hr
end Go.Proofs.YtcpakoobgcdekaaDoor
