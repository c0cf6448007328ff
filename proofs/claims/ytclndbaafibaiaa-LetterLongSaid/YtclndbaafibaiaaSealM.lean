/- Plain facts on the sums of layer 23: the running sum, its bytes, what it tells apart. No program in sight. By the prover of this repo. -/
import Derived.Test.YtclndbaafibaiaaRows
namespace Go.Proofs.Ytclndbaafibaiaa
namespace SealM

theorem snoc_ind {α : Type} {p : List α → Prop} (h0 : p []) (h1 : ∀ l c, p l → p (l ++ [c])) (l : List α) : p l := by
  have h : ∀ l : List α, p l.reverse := by
    intro l
    induction l with
    | nil => exact h0
    | cons c l ih => rw [List.reverse_cons]; exact h1 _ _ ih
  have := h l.reverse
  rwa [List.reverse_reverse] at this

/-- One byte more. -/
def step (s : Int × Int) (c : UInt8) : Int × Int :=
  ((s.1 + (c.toNat : Int)) % 65521, (s.2 + (s.1 + (c.toNat : Int)) % 65521) % 65521)
/-- The sum of a text, begun at s. -/
def more (s : Int × Int) (l : List UInt8) : Int × Int := l.foldl step s
/-- One byte more, not brought down. -/
def rstep (s : Int × Int) (c : UInt8) : Int × Int := (s.1 + (c.toNat : Int), s.2 + (s.1 + (c.toNat : Int)))
def raw (s : Int × Int) (l : List UInt8) : Int × Int := l.foldl rstep s
/-- In range. -/
def In (s : Int × Int) : Prop := 0 ≤ s.1 ∧ s.1 ≤ 65520 ∧ 0 ≤ s.2 ∧ s.2 ≤ 65520

theorem byte_lt (c : UInt8) : 0 ≤ (c.toNat : Int) ∧ (c.toNat : Int) ≤ 255 := by have := c.toNat_lt; omega

theorem more_nil (s : Int × Int) : more s [] = s := rfl
theorem more_cons (s : Int × Int) (c : UInt8) (l : List UInt8) : more s (c :: l) = more (step s c) l := rfl
theorem more_append (s : Int × Int) (l m : List UInt8) : more s (l ++ m) = more (more s l) m := by simp [more]
theorem more_snoc (s : Int × Int) (l : List UInt8) (c : UInt8) : more s (l ++ [c]) = step (more s l) c := by simp [more]
theorem raw_snoc (s : Int × Int) (l : List UInt8) (c : UInt8) : raw s (l ++ [c]) = rstep (raw s l) c := by simp [raw]

theorem step_in (s : Int × Int) (c : UInt8) : In (step s c) := by unfold In step; simp only; omega
theorem more_in (l : List UInt8) : ∀ s, In s → In (more s l) := by
  induction l with
  | nil => intro s h; exact h
  | cons c l ih => intro s _; exact ih _ (step_in s c)

theorem more_of_raw (l : List UInt8) : ∀ s : Int × Int, ((raw s l).1 % 65521, (raw s l).2 % 65521) = more (s.1 % 65521, s.2 % 65521) l := by
  induction l with
  | nil => intro s; rfl
  | cons c l ih =>
    intro s
    have h := ih (rstep s c)
    show ((raw (rstep s c) l).1 % 65521, (raw (rstep s c) l).2 % 65521) = more (step (s.1 % 65521, s.2 % 65521) c) l
    rw [h]
    congr 1
    unfold rstep step
    simp only [Prod.mk.injEq]
    omega
theorem more_of_raw_in (l : List UInt8) (s : Int × Int) (h : In s) : more s l = ((raw s l).1 % 65521, (raw s l).2 % 65521) := by
  rw [more_of_raw]
  obtain ⟨a, b⟩ := s
  unfold In at h
  simp only at h ⊢
  congr 1
  simp only [Prod.mk.injEq]
  omega

theorem raw_bd (l : List UInt8) : ∀ (s : Int × Int) (A B : Int), 0 ≤ s.1 → s.1 ≤ A → 0 ≤ s.2 → s.2 ≤ B → A + 255 * (l.length : Int) ≤ 1340520 →
    0 ≤ (raw s l).1 ∧ (raw s l).1 ≤ A + 255 * (l.length : Int) ∧ 0 ≤ (raw s l).2 ∧ (raw s l).2 ≤ B + (l.length : Int) * 1340520 := by
  induction l with
  | nil => intro s A B h1 h2 h3 h4 _; simp [raw]; omega
  | cons c l ih =>
    intro s A B h1 h2 h3 h4 h5
    have hb := byte_lt c
    simp only [List.length_cons] at h5 ⊢
    have h := ih (rstep s c) (A + 255) (B + 1340520) (by unfold rstep; simp only; omega) (by unfold rstep; simp only; omega) (by unfold rstep; simp only; omega) (by unfold rstep; simp only; omega) (by omega)
    show 0 ≤ (raw (rstep s c) l).1 ∧ (raw (rstep s c) l).1 ≤ _ ∧ 0 ≤ (raw (rstep s c) l).2 ∧ (raw (rstep s c) l).2 ≤ _
    omega
theorem raw_bd5 (s : Int × Int) (h : In s) (l : List UInt8) (hl : l.length ≤ 5000) :
    0 ≤ (raw s l).1 ∧ (raw s l).1 ≤ 1340520 ∧ 0 ≤ (raw s l).2 ∧ (raw s l).2 ≤ 6702665520 := by
  obtain ⟨h1, h2, h3, h4⟩ := h
  have := raw_bd l s 65520 65520 h1 h2 h3 h4 (by omega)
  omega

/-- A sum's four bytes. -/
def sumBytes (s : Int × Int) : List UInt8 :=
  [UInt8.ofNat (s.2 / 256).toNat, UInt8.ofNat (s.2 % 256).toNat, UInt8.ofNat (s.1 / 256).toNat, UInt8.ofNat (s.1 % 256).toNat]
theorem sumBytes_length (s : Int × Int) : (sumBytes s).length = 4 := rfl
theorem ofNat_inj {a b : Nat} (ha : a < 256) (hb : b < 256) (h : UInt8.ofNat a = UInt8.ofNat b) : a = b := by
  have := congrArg UInt8.toNat h
  simpa [UInt8.toNat_ofNat', Nat.mod_eq_of_lt ha, Nat.mod_eq_of_lt hb] using this
theorem sumBytes_inj {s t : Int × Int} (hs : In s) (ht : In t) (h : sumBytes s = sumBytes t) : s = t := by
  obtain ⟨a, b⟩ := s
  obtain ⟨c, d⟩ := t
  unfold In at hs ht
  unfold sumBytes at h
  simp only [List.cons.injEq, and_true] at h hs ht
  obtain ⟨h1, h2, h3, h4⟩ := h
  have e1 := ofNat_inj (by omega) (by omega) h1
  have e2 := ofNat_inj (by omega) (by omega) h2
  have e3 := ofNat_inj (by omega) (by omega) h3
  have e4 := ofNat_inj (by omega) (by omega) h4
  simp only [Prod.mk.injEq]
  omega

/-- .. as a text. -/
def sumStr (s : Int × Int) : ByteArray := ⟨(sumBytes s).toArray⟩
theorem sumStr_size (s : Int × Int) : (sumStr s).size = 4 := rfl
theorem sumStr_list (s : Int × Int) : (sumStr s).data.toList = sumBytes s := rfl

/-- The sum of the empty text. -/
def one : Int × Int := (1, 0)
theorem one_in : In one := by unfold In one; simp
def of (l : List UInt8) : Int × Int := more one l
theorem of_in (l : List UInt8) : In (of l) := more_in l _ one_in

/-- The sum of two texts, of both sums. -/
theorem more_join (m : List UInt8) : ∀ s : Int × Int, In s →
    more s m = ((s.1 + (of m).1 + 65520) % 65521, (s.2 + (of m).2 + (m.length : Int) % 65521 * (s.1 + 65520)) % 65521) := by
  intro s hs
  have key : ∀ m : List UInt8, (more s m).1 % 65521 = (s.1 + (of m).1 - 1) % 65521 ∧
      (more s m).2 % 65521 = (s.2 + (of m).2 + (m.length : Int) * (s.1 - 1)) % 65521 := by
    refine snoc_ind ?_ ?_
    · obtain ⟨a, b⟩ := s
      constructor
      · show a % 65521 = (a + 1 - 1) % 65521
        congr 1; omega
      · show b % 65521 = (b + 0 + (0 : Int) * (a - 1)) % 65521
        congr 1; omega
    · intro l c ih
      obtain ⟨i1, i2⟩ := ih
      have e1 : of (l ++ [c]) = step (of l) c := more_snoc _ _ _
      rw [more_snoc, e1]
      generalize more s l = u at *
      generalize of l = v at *
      have e2 : (((l ++ [c]).length : Nat) : Int) * (s.1 - 1) = (l.length : Int) * (s.1 - 1) + (s.1 - 1) := by
        rw [List.length_append]; simp [Int.add_mul]
      rw [e2]
      generalize (l.length : Int) * (s.1 - 1) = p at *
      unfold step
      simp only
      omega
  obtain ⟨k1, k2⟩ := key m
  have hm := more_in m s hs
  have e : ((m.length : Int) % 65521 * (s.1 + 65520)) % 65521 = ((m.length : Int) * (s.1 - 1)) % 65521 := by
    have e1 : (s.1 + 65520) % 65521 = (s.1 - 1) % 65521 := by omega
    rw [Int.mul_emod, e1, Int.emod_emod, ← Int.mul_emod]
  generalize (m.length : Int) % 65521 * (s.1 + 65520) = p at *
  generalize (m.length : Int) * (s.1 - 1) = q at *
  generalize more s m = u at *
  generalize of m = v at *
  obtain ⟨a, b⟩ := u
  unfold In at hm
  simp only [Prod.mk.injEq] at *
  omega

/-- Two sums that part, part for ever. -/
theorem step_inj {s t : Int × Int} (hs : In s) (ht : In t) (c : UInt8) (h : step s c = step t c) : s = t := by
  obtain ⟨a, b⟩ := s
  obtain ⟨d, e⟩ := t
  unfold In at hs ht
  unfold step at h
  simp only [Prod.mk.injEq] at *
  omega
theorem more_inj (l : List UInt8) : ∀ {s t : Int × Int}, In s → In t → more s l = more t l → s = t := by
  induction l with
  | nil => intro s t _ _ h; exact h
  | cons c l ih => intro s t hs ht h; exact step_inj hs ht c (ih (step_in _ _) (step_in _ _) h)
/-- One byte changed. -/
theorem of_change (l m : List UInt8) {c d : UInt8} (hne : c ≠ d) : of (l ++ c :: m) ≠ of (l ++ d :: m) := by
  intro h
  unfold of at h
  rw [more_append, more_append, more_cons, more_cons] at h
  have h2 := more_inj m (step_in _ _) (step_in _ _) h
  have h3 := more_in l one one_in
  generalize more one l = u at *
  have hc := byte_lt c
  have hd := byte_lt d
  have : (c.toNat : Int) ≠ (d.toNat : Int) := by
    intro e; apply hne; exact UInt8.toNat_inj.1 (by omega)
  unfold step at h2
  unfold In at h3
  simp only [Prod.mk.injEq] at h2
  omega
/-- Two bytes changed about. -/
theorem of_swap (l m : List UInt8) {c d : UInt8} (hne : c ≠ d) : of (l ++ c :: d :: m) ≠ of (l ++ d :: c :: m) := by
  intro h
  unfold of at h
  rw [more_append, more_append, more_cons, more_cons, more_cons, more_cons] at h
  have h2 := more_inj m (step_in _ _) (step_in _ _) h
  have h3 := more_in l one one_in
  generalize more one l = u at *
  have hc := byte_lt c
  have hd := byte_lt d
  have : (c.toNat : Int) ≠ (d.toNat : Int) := by
    intro e; apply hne; exact UInt8.toNat_inj.1 (by omega)
  unfold step at h2
  unfold In at h3
  simp only [Prod.mk.injEq] at h2
  omega

/-- The bytes of the first k texts. -/
def cat (ss : Nat → ByteArray) : Nat → List UInt8
  | 0 => []
  | k + 1 => cat ss k ++ (ss k).data.toList
/-- A text, as a list, that ends in the sum of what stands ahead. -/
def OpensL (l : List UInt8) : Prop := sumBytes (of (l.take (l.length - 4))) = l.drop (l.length - 4)
def sealL (s : List UInt8) : List UInt8 := s ++ sumBytes (of s)
theorem sealL_length (s : List UInt8) : (sealL s).length = s.length + 4 := by simp [sealL, sumBytes_length]
theorem opens_append (a b : List UInt8) (hb : b.length = 4) : OpensL (a ++ b) ↔ sumBytes (of a) = b := by
  unfold OpensL
  have e : (a ++ b).length - 4 = a.length := by rw [List.length_append]; omega
  rw [e, List.take_left', List.drop_left'] <;> rfl
theorem opens_seal (s : List UInt8) : OpensL (sealL s) := (opens_append _ _ (sumBytes_length _)).2 rfl
theorem sum_ne {a b : List UInt8} (h : of a ≠ of b) : sumBytes (of a) ≠ sumBytes (of b) := fun e => h (sumBytes_inj (of_in _) (of_in _) e)
/-- One byte changed: it opens no more. -/
theorem opens_change (s : List UInt8) (i : Nat) (hi : i < s.length + 4) (d : UInt8) (hd : (sealL s)[i]? ≠ some d) : ¬ OpensL ((sealL s).set i d) := by
  unfold sealL at *
  by_cases h : i < s.length
  · rw [List.set_append_left _ _ h, opens_append _ _ (sumBytes_length _)]
    have hs : s = s.take i ++ s[i] :: s.drop (i + 1) := by simp
    have hne : d ≠ s[i] := by
      intro e; apply hd
      rw [List.getElem?_append_left h, List.getElem?_eq_getElem h, e]
    have h2 := of_change (s.take i) (s.drop (i + 1)) hne
    rw [← hs] at h2
    rw [List.set_eq_take_append_cons_drop, if_pos h]
    exact sum_ne h2
  · rw [List.set_append_right _ _ (by omega), opens_append _ _ (by simp [sumBytes_length])]
    intro e
    apply hd
    rw [List.getElem?_append_right (by omega), e, List.getElem?_set_self (by rw [sumBytes_length]; omega)]
/-- Two bytes side by side changed about: it opens just if they are alike. -/
theorem opens_swap (s : List UInt8) (i : Nat) (hi : i + 1 < s.length) (c d : UInt8) (hc : s[i]? = some c) (hd : s[i + 1]? = some d) :
    OpensL (((sealL s).set i d).set (i + 1) c) ↔ c = d := by
  have h0 : i < s.length := by omega
  have hs : s = s.take i ++ c :: d :: s.drop (i + 2) := by
    have e1 : s[i] = c := by rw [List.getElem?_eq_getElem h0] at hc; exact Option.some.inj hc
    have e2 : s[i + 1] = d := by rw [List.getElem?_eq_getElem hi] at hd; exact Option.some.inj hd
    rw [← e1, ← e2]
    simp
  have hset : (s.set i d).set (i + 1) c = s.take i ++ d :: c :: s.drop (i + 2) := by
    have hl : (s.take i).length = i := by rw [List.length_take]; omega
    conv => lhs; rw [hs]
    rw [List.set_append_right _ _ (by omega), List.set_append_right _ _ (by omega), hl]
    simp
  unfold sealL
  rw [List.set_append_left _ _ h0, List.set_append_left _ _ (by simpa using hi), opens_append _ _ (sumBytes_length _), hset]
  constructor
  · intro e
    have e2 := sumBytes_inj (of_in _) (of_in _) e
    refine Decidable.byContradiction fun hne => ?_
    have h2 := of_swap (s.take i) (s.drop (i + 2)) hne
    rw [← hs] at h2
    exact h2 e2.symm
  · rintro rfl
    rw [← hs]

/-- A text with its sum behind it. -/
def sealed (t : ByteArray) : ByteArray := t ++ sumStr (of t.data.toList)
end SealM
end Go.Proofs.Ytclndbaafibaiaa
