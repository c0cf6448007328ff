/- Part 18 of the proof: texts joined by this repo's tools/merge2.py (SealM SealW). By the prover of this repo. -/
import Derived.Test.YteebghoijaaakaaGreatRows
import Derived.Test.YteebghoijaaakaaGreatM1
set_option linter.unusedVariables false
set_option linter.unusedSimpArgs false
/- Plain facts on the sums of layer 23: the running sum, its bytes, what it tells apart. No program in sight. By the prover of this repo. -/
namespace Go.Proofs.YteebghoijaaakaaGreat
namespace SealM

theorem snoc_ind {α : Type} {p : List α → Prop} (h0 : p []) (h1 : ∀ l c, p l → p (l ++ [c])) (l : List α) : p l := by
  have h : ∀ l : List α, p l.reverse := by
    intro l
    induction l with
    | nil => exact h0
    | cons c l ih => rw [List.reverse_cons]; exact h1 _ _ ih
  have := h l.reverse
  rwa [List.reverse_reverse] at this

/-- One byte more. -/
def step (s : Int × Int) (c : UInt8) : Int × Int :=
  ((s.1 + (c.toNat : Int)) % 65521, (s.2 + (s.1 + (c.toNat : Int)) % 65521) % 65521)
/-- The sum of a text, begun at s. -/
def more (s : Int × Int) (l : List UInt8) : Int × Int := l.foldl step s
/-- One byte more, not brought down. -/
def rstep (s : Int × Int) (c : UInt8) : Int × Int := (s.1 + (c.toNat : Int), s.2 + (s.1 + (c.toNat : Int)))
def raw (s : Int × Int) (l : List UInt8) : Int × Int := l.foldl rstep s
/-- In range. -/
def In (s : Int × Int) : Prop := 0 ≤ s.1 ∧ s.1 ≤ 65520 ∧ 0 ≤ s.2 ∧ s.2 ≤ 65520

theorem byte_lt (c : UInt8) : 0 ≤ (c.toNat : Int) ∧ (c.toNat : Int) ≤ 255 := by have := c.toNat_lt; omega

theorem more_nil (s : Int × Int) : more s [] = s := rfl
theorem more_cons (s : Int × Int) (c : UInt8) (l : List UInt8) : more s (c :: l) = more (step s c) l := rfl
theorem more_append (s : Int × Int) (l m : List UInt8) : more s (l ++ m) = more (more s l) m := by simp [more]
theorem more_snoc (s : Int × Int) (l : List UInt8) (c : UInt8) : more s (l ++ [c]) = step (more s l) c := by simp [more]
theorem raw_snoc (s : Int × Int) (l : List UInt8) (c : UInt8) : raw s (l ++ [c]) = rstep (raw s l) c := by simp [raw]

theorem step_in (s : Int × Int) (c : UInt8) : In (step s c) := by unfold In step; simp only; omega
theorem more_in (l : List UInt8) : ∀ s, In s → In (more s l) := by
  induction l with
  | nil => intro s h; exact h
  | cons c l ih => intro s _; exact ih _ (step_in s c)

theorem more_of_raw (l : List UInt8) : ∀ s : Int × Int, ((raw s l).1 % 65521, (raw s l).2 % 65521) = more (s.1 % 65521, s.2 % 65521) l := by
  induction l with
  | nil => intro s; rfl
  | cons c l ih =>
    intro s
    have h := ih (rstep s c)
    show ((raw (rstep s c) l).1 % 65521, (raw (rstep s c) l).2 % 65521) = more (step (s.1 % 65521, s.2 % 65521) c) l
    rw [h]
    congr 1
    unfold rstep step
    simp only [Prod.mk.injEq]
    omega
theorem more_of_raw_in (l : List UInt8) (s : Int × Int) (h : In s) : more s l = ((raw s l).1 % 65521, (raw s l).2 % 65521) := by
  rw [more_of_raw]
  obtain ⟨a, b⟩ := s
  unfold In at h
  simp only at h ⊢
  congr 1
  simp only [Prod.mk.injEq]
  omega

theorem raw_bd (l : List UInt8) : ∀ (s : Int × Int) (A B : Int), 0 ≤ s.1 → s.1 ≤ A → 0 ≤ s.2 → s.2 ≤ B → A + 255 * (l.length : Int) ≤ 1340520 →
    0 ≤ (raw s l).1 ∧ (raw s l).1 ≤ A + 255 * (l.length : Int) ∧ 0 ≤ (raw s l).2 ∧ (raw s l).2 ≤ B + (l.length : Int) * 1340520 := by
  induction l with
  | nil => intro s A B h1 h2 h3 h4 _; simp [raw]; omega
  | cons c l ih =>
    intro s A B h1 h2 h3 h4 h5
    have hb := byte_lt c
    simp only [List.length_cons] at h5 ⊢
    have h := ih (rstep s c) (A + 255) (B + 1340520) (by unfold rstep; simp only; omega) (by unfold rstep; simp only; omega) (by unfold rstep; simp only; omega) (by unfold rstep; simp only; omega) (by omega)
    show 0 ≤ (raw (rstep s c) l).1 ∧ (raw (rstep s c) l).1 ≤ _ ∧ 0 ≤ (raw (rstep s c) l).2 ∧ (raw (rstep s c) l).2 ≤ _
    omega
theorem raw_bd5 (s : Int × Int) (h : In s) (l : List UInt8) (hl : l.length ≤ 5000) :
    0 ≤ (raw s l).1 ∧ (raw s l).1 ≤ 1340520 ∧ 0 ≤ (raw s l).2 ∧ (raw s l).2 ≤ 6702665520 := by
  obtain ⟨h1, h2, h3, h4⟩ := h
  have := raw_bd l s 65520 65520 h1 h2 h3 h4 (by omega)
  omega

/-- A sum's four bytes. -/
def sumBytes (s : Int × Int) : List UInt8 :=
  [UInt8.ofNat (s.2 / 256).toNat, UInt8.ofNat (s.2 % 256).toNat, UInt8.ofNat (s.1 / 256).toNat, UInt8.ofNat (s.1 % 256).toNat]
theorem sumBytes_length (s : Int × Int) : (sumBytes s).length = 4 := rfl
theorem ofNat_inj {a b : Nat} (ha : a < 256) (hb : b < 256) (h : UInt8.ofNat a = UInt8.ofNat b) : a = b := by
  have := congrArg UInt8.toNat h
  simpa [UInt8.toNat_ofNat', Nat.mod_eq_of_lt ha, Nat.mod_eq_of_lt hb] using this
theorem sumBytes_inj {s t : Int × Int} (hs : In s) (ht : In t) (h : sumBytes s = sumBytes t) : s = t := by
  obtain ⟨a, b⟩ := s
  obtain ⟨c, d⟩ := t
  unfold In at hs ht
  unfold sumBytes at h
  simp only [List.cons.injEq, and_true] at h hs ht
  obtain ⟨h1, h2, h3, h4⟩ := h
  have e1 := ofNat_inj (by omega) (by omega) h1
  have e2 := ofNat_inj (by omega) (by omega) h2
  have e3 := ofNat_inj (by omega) (by omega) h3
  have e4 := ofNat_inj (by omega) (by omega) h4
  simp only [Prod.mk.injEq]
  omega

/-- .. as a text. -/
def sumStr (s : Int × Int) : ByteArray := ⟨(sumBytes s).toArray⟩
theorem sumStr_size (s : Int × Int) : (sumStr s).size = 4 := rfl
theorem sumStr_list (s : Int × Int) : (sumStr s).data.toList = sumBytes s := rfl

/-- The sum of the empty text. -/
def one : Int × Int := (1, 0)
theorem one_in : In one := by unfold In one; simp
def of (l : List UInt8) : Int × Int := more one l
theorem of_in (l : List UInt8) : In (of l) := more_in l _ one_in

/-- The sum of two texts, of both sums. -/
theorem more_join (m : List UInt8) : ∀ s : Int × Int, In s →
    more s m = ((s.1 + (of m).1 + 65520) % 65521, (s.2 + (of m).2 + (m.length : Int) % 65521 * (s.1 + 65520)) % 65521) := by
  intro s hs
  have key : ∀ m : List UInt8, (more s m).1 % 65521 = (s.1 + (of m).1 - 1) % 65521 ∧
      (more s m).2 % 65521 = (s.2 + (of m).2 + (m.length : Int) * (s.1 - 1)) % 65521 := by
    refine snoc_ind ?_ ?_
    · obtain ⟨a, b⟩ := s
      constructor
      · show a % 65521 = (a + 1 - 1) % 65521
        congr 1; omega
      · show b % 65521 = (b + 0 + (0 : Int) * (a - 1)) % 65521
        congr 1; omega
    · intro l c ih
      obtain ⟨i1, i2⟩ := ih
      have e1 : of (l ++ [c]) = step (of l) c := more_snoc _ _ _
      rw [more_snoc, e1]
      generalize more s l = u at *
      generalize of l = v at *
      have e2 : (((l ++ [c]).length : Nat) : Int) * (s.1 - 1) = (l.length : Int) * (s.1 - 1) + (s.1 - 1) := by
        rw [List.length_append]; simp [Int.add_mul]
      rw [e2]
      generalize (l.length : Int) * (s.1 - 1) = p at *
      unfold step
      simp only
      omega
  obtain ⟨k1, k2⟩ := key m
  have hm := more_in m s hs
  have e : ((m.length : Int) % 65521 * (s.1 + 65520)) % 65521 = ((m.length : Int) * (s.1 - 1)) % 65521 := by
    have e1 : (s.1 + 65520) % 65521 = (s.1 - 1) % 65521 := by omega
    rw [Int.mul_emod, e1, Int.emod_emod, ← Int.mul_emod]
  generalize (m.length : Int) % 65521 * (s.1 + 65520) = p at *
  generalize (m.length : Int) * (s.1 - 1) = q at *
  generalize more s m = u at *
  generalize of m = v at *
  obtain ⟨a, b⟩ := u
  unfold In at hm
  simp only [Prod.mk.injEq] at *
  omega

/-- Two sums that part, part for ever. -/
theorem step_inj {s t : Int × Int} (hs : In s) (ht : In t) (c : UInt8) (h : step s c = step t c) : s = t := by
  obtain ⟨a, b⟩ := s
  obtain ⟨d, e⟩ := t
  unfold In at hs ht
  unfold step at h
  simp only [Prod.mk.injEq] at *
  omega
theorem more_inj (l : List UInt8) : ∀ {s t : Int × Int}, In s → In t → more s l = more t l → s = t := by
  induction l with
  | nil => intro s t _ _ h; exact h
  | cons c l ih => intro s t hs ht h; exact step_inj hs ht c (ih (step_in _ _) (step_in _ _) h)
/-- One byte changed. -/
theorem of_change (l m : List UInt8) {c d : UInt8} (hne : c ≠ d) : of (l ++ c :: m) ≠ of (l ++ d :: m) := by
  intro h
  unfold of at h
  rw [more_append, more_append, more_cons, more_cons] at h
  have h2 := more_inj m (step_in _ _) (step_in _ _) h
  have h3 := more_in l one one_in
  generalize more one l = u at *
  have hc := byte_lt c
  have hd := byte_lt d
  have : (c.toNat : Int) ≠ (d.toNat : Int) := by
    intro e; apply hne; exact UInt8.toNat_inj.1 (by omega)
  unfold step at h2
  unfold In at h3
  simp only [Prod.mk.injEq] at h2
  omega
/-- Two bytes changed about. -/
theorem of_swap (l m : List UInt8) {c d : UInt8} (hne : c ≠ d) : of (l ++ c :: d :: m) ≠ of (l ++ d :: c :: m) := by
  intro h
  unfold of at h
  rw [more_append, more_append, more_cons, more_cons, more_cons, more_cons] at h
  have h2 := more_inj m (step_in _ _) (step_in _ _) h
  have h3 := more_in l one one_in
  generalize more one l = u at *
  have hc := byte_lt c
  have hd := byte_lt d
  have : (c.toNat : Int) ≠ (d.toNat : Int) := by
    intro e; apply hne; exact UInt8.toNat_inj.1 (by omega)
  unfold step at h2
  unfold In at h3
  simp only [Prod.mk.injEq] at h2
  omega

/-- The bytes of the first k texts. -/
def cat (ss : Nat → ByteArray) : Nat → List UInt8
  | 0 => []
  | k + 1 => cat ss k ++ (ss k).data.toList
/-- A text, as a list, that ends in the sum of what stands ahead. -/
def OpensL (l : List UInt8) : Prop := sumBytes (of (l.take (l.length - 4))) = l.drop (l.length - 4)
def sealL (s : List UInt8) : List UInt8 := s ++ sumBytes (of s)
theorem sealL_length (s : List UInt8) : (sealL s).length = s.length + 4 := by simp [sealL, sumBytes_length]
theorem opens_append (a b : List UInt8) (hb : b.length = 4) : OpensL (a ++ b) ↔ sumBytes (of a) = b := by
  unfold OpensL
  have e : (a ++ b).length - 4 = a.length := by rw [List.length_append]; omega
  rw [e, List.take_left', List.drop_left'] <;> rfl
theorem opens_seal (s : List UInt8) : OpensL (sealL s) := (opens_append _ _ (sumBytes_length _)).2 rfl
theorem sum_ne {a b : List UInt8} (h : of a ≠ of b) : sumBytes (of a) ≠ sumBytes (of b) := fun e => h (sumBytes_inj (of_in _) (of_in _) e)
/-- One byte changed: it opens no more. -/
theorem opens_change (s : List UInt8) (i : Nat) (hi : i < s.length + 4) (d : UInt8) (hd : (sealL s)[i]? ≠ some d) : ¬ OpensL ((sealL s).set i d) := by
  unfold sealL at *
  by_cases h : i < s.length
  · rw [List.set_append_left _ _ h, opens_append _ _ (sumBytes_length _)]
    have hs : s = s.take i ++ s[i] :: s.drop (i + 1) := by simp
    have hne : d ≠ s[i] := by
      intro e; apply hd
      rw [List.getElem?_append_left h, List.getElem?_eq_getElem h, e]
    have h2 := of_change (s.take i) (s.drop (i + 1)) hne
    rw [← hs] at h2
    rw [List.set_eq_take_append_cons_drop, if_pos h]
    exact sum_ne h2
  · rw [List.set_append_right _ _ (by omega), opens_append _ _ (by simp [sumBytes_length])]
    intro e
    apply hd
    rw [List.getElem?_append_right (by omega), e, List.getElem?_set_self (by rw [sumBytes_length]; omega)]
/-- Two bytes side by side changed about: it opens just if they are alike. -/
theorem opens_swap (s : List UInt8) (i : Nat) (hi : i + 1 < s.length) (c d : UInt8) (hc : s[i]? = some c) (hd : s[i + 1]? = some d) :
    OpensL (((sealL s).set i d).set (i + 1) c) ↔ c = d := by
  have h0 : i < s.length := by omega
  have hs : s = s.take i ++ c :: d :: s.drop (i + 2) := by
    have e1 : s[i] = c := by rw [List.getElem?_eq_getElem h0] at hc; exact Option.some.inj hc
    have e2 : s[i + 1] = d := by rw [List.getElem?_eq_getElem hi] at hd; exact Option.some.inj hd
    rw [← e1, ← e2]
    simp
  have hset : (s.set i d).set (i + 1) c = s.take i ++ d :: c :: s.drop (i + 2) := by
    have hl : (s.take i).length = i := by rw [List.length_take]; omega
    conv => lhs; rw [hs]
    rw [List.set_append_right _ _ (by omega), List.set_append_right _ _ (by omega), hl]
    simp
  unfold sealL
  rw [List.set_append_left _ _ h0, List.set_append_left _ _ (by simpa using hi), opens_append _ _ (sumBytes_length _), hset]
  constructor
  · intro e
    have e2 := sumBytes_inj (of_in _) (of_in _) e
    refine Decidable.byContradiction fun hne => ?_
    have h2 := of_swap (s.take i) (s.drop (i + 2)) hne
    rw [← hs] at h2
    exact h2 e2.symm
  · rintro rfl
    rw [← hs]

/-- A text with its sum behind it. -/
def sealed (t : ByteArray) : ByteArray := t ++ sumStr (of t.data.toList)
end SealM
end Go.Proofs.YteebghoijaaakaaGreat
/- The walks of layer 23: each function of the packages seal and dewpondref23, once, by what it computes. By the prover of this repo. -/
namespace Go.Proofs.YteebghoijaaakaaGreat
open Go.RowKit
open SealM

/-- A sum as a value. -/
abbrev sv (s : Int × Int) : Value := .agg #[.int .i64 s.1, .int .i64 s.2]

theorem seal_begin (w : World) : Calls Tryz.prog 125 #[] w fun e w' => e = .returned (.agg #[.int .i64 1, .int .i64 0]) ∧ Below w.heap.size w w' := by
  go_enter Tryz.func125, Tryz.ntmps125
  go_wp2
  exact bodyPost_ret (v := .agg #[.int .i64 1, .int .i64 0]) (by simp [results, Tryz.results125, go_sem]) rfl ⟨rfl, (Below.refl _ _).alloc (Nat.le_refl _) _⟩
/-- Four bytes made a string. -/
theorem four_bytes {P : Program} (w : World) (g : Nat) (hg : g = w.heap.size) (src dst e : TypeId) (cap : Nat) (x0 x1 x2 x3 : Int) (hs : P.underlying src = some (.slice e)) (he : P.underlying e = some (.int .u8)) (hd : P.underlying dst = some .string)
    (h0 : 0 ≤ x0 ∧ x0 ≤ 255) (h1 : 0 ≤ x1 ∧ x1 ≤ 255) (h2 : 0 ≤ x2 ∧ x2 ≤ 255) (h3 : 0 ≤ x3 ∧ x3 ≤ 255) :
    (convert src dst (.slice (some ⟨g, 0, none⟩) 4 cap)).run P (w.alloc (.cells #[.int .u8 x0, .int .u8 x1, .int .u8 x2, .int .u8 x3] e)) =
      .ok (.string ⟨#[UInt8.ofNat x0.toNat, UInt8.ofNat x1.toNat, UInt8.ofNat x2.toNat, UInt8.ofNat x3.toNat]⟩) (w.alloc (.cells #[.int .u8 x0, .int .u8 x1, .int .u8 x2, .int .u8 x3] e)) := by
  subst hg
  have h := run_convert_bytes_back (P := P) (w.alloc (.cells #[.int .u8 x0, .int .u8 x1, .int .u8 x2, .int .u8 x3] e)) src dst e ⟨w.heap.size, 0, none⟩ cap
    [UInt8.ofNat x0.toNat, UInt8.ofNat x1.toNat, UInt8.ofNat x2.toNat, UInt8.ofNat x3.toNat] hs he hd (by
      intro j hj
      have hadd : (⟨w.heap.size, 0, none⟩ : Addr).add j = ⟨w.heap.size, j, none⟩ := by unfold Addr.add; split <;> simp_all
      rw [hadd, World.cell?_alloc_at _ _ _ _ rfl]
      match j, hj with
      | 0, _ => simp; omega
      | 1, _ => simp; omega
      | 2, _ => simp; omega
      | 3, _ => simp; omega)
  exact h

theorem seal_bytes (s : Int × Int) (w : World) (hs : In s) : Calls Tryz.prog 73 #[sv s] w fun e w' => e = .returned (.string (sumStr s)) ∧ Below w.heap.size w w' := by
  obtain ⟨lo, hi⟩ := s
  obtain ⟨h0, h1, h2, h3⟩ := hs
  simp only at h0 h1 h2 h3
  have hcv := four_bytes (P := Tryz.prog) (w.alloc (.cells #[.int .i64 lo, .int .i64 hi] 126)) (w.heap.size + 1) (by simp) 71 9 5 4 (hi / 256) (hi % 256) (lo / 256) (lo % 256) Tryz.underlying71 Tryz.underlying5 Tryz.underlying9 (by omega) (by omega) (by omega) (by omega)
  go_enter Tryz.func73, Tryz.ntmps73
  go_wp2_with fail
  go_ret
  exact ⟨rfl, ((Below.refl _ _).alloc (Nat.le_refl _) _).alloc (by simp) _⟩

/-- What a text's sum is as a value. -/
def ofV (t : ByteArray) : Value := sv (SealM.of t.data.toList)

set_option maxHeartbeats 800000 in
theorem seal_more (s : Int × Int) (t : ByteArray) (w : World) (hs : In s) (ht : t.size ≤ maxLen) :
    Calls Tryz.prog 126 #[sv s, .string t] w fun e w' => e = .returned (sv (more s t.data.toList)) ∧ Below w.heap.size w w' := by
  unfold maxLen at ht
  go_enter Tryz.func126, Tryz.ntmps126
  go_wp2
  go_loopw [1] (fun x wr => ∃ (r : ByteArray) (u : Int × Int), x = .string r ∧ r.size ≤ 9223372036854775807 ∧ In u ∧ Hid (more u r.data.toList = more s t.data.toList) ∧ Blk wr w.heap.size 126 #[.int .i64 u.1, .int .i64 u.2] ∧ Blk wr (w.heap.size + 1) 126 #[.int .i64 0, .int .i64 0] ∧ Below w.heap.size w wr)
    (fun x _ => strLen x)
  case atStart =>
    refine ⟨t, s, rfl, by omega, hs, rfl, ?_, ?_, ?_⟩
    · exact (Blk.made _ _ _).alloc _
    · exact Blk.made_at _ _ _ (by simp)
    · exact ((Below.refl _ _).alloc (Nat.le_refl _) _).alloc (by simp) _
  case round =>
    obtain ⟨r, u, rfl, hr, hu, hm, hb0, hb1, hbel⟩ := hrel
    by_cases h0 : 0 < r.size
    · go_upto_region 2 with (fail)
      go_cut [5] from 7 to 42 (fun n w2 => w2 = wr ∧ ∃ k : Nat, n = .int .i64 k ∧ 0 < k ∧ k ≤ 5000 ∧ k ≤ r.size)
      case first =>
        go_wp2
        all_goals go_meet
        case rel => exact ⟨rfl, 5000, rfl, by omega, by omega, by omega⟩
        case rel => exact ⟨rfl, r.size, rfl, by omega, by omega, by omega⟩
      case rest =>
        obtain ⟨rfl, n, rfl, hn0, hn1, hn2⟩ := hcut
        go_wp2
        obtain ⟨a0, b0⟩ := u
        simp only at hb0
        go_loopw [14] (fun i w2 => ∃ k : Nat, k ≤ n ∧ i = .int .i64 k ∧ Blk w2 w.heap.size 126 #[.int .i64 (raw (a0, b0) (r.data.toList.take k)).1, .int .i64 (raw (a0, b0) (r.data.toList.take k)).2] ∧ Blk w2 (w.heap.size + 1) 126 #[.int .i64 0, .int .i64 0] ∧ Below w.heap.size w w2)
          (fun i _ => n - (intOf i).toNat)
        case atStart => exact ⟨0, by omega, rfl, hb0, hb1, hbel⟩
        case round =>
          clear hb0 hb1 hbel
          obtain ⟨k, hk, rfl, hb0, hb1, hbel⟩ := hrel
          have hbd := raw_bd5 (a0, b0) hu (r.data.toList.take k) (by rw [List.length_take]; omega)
          have hsn := hide (take_snoc r k)
          generalize hmm : raw (a0, b0) (r.data.toList.take k) = v at *
          have HU := hide hmm
          clear hmm
          obtain ⟨x, y⟩ := v
          simp only at hbd hb0
          obtain ⟨u1, u2, u3, u4⟩ := hbd
          have c0 := hb0.cell 0
          have c1 := hb0.cell 1
          have f0 := hb0.free 0
          have f1 := hb0.free 1
          simp only [List.getElem?_toArray, List.getElem?_cons_zero, List.getElem?_cons_succ] at c0 c1
          by_cases hlt : k < n
          · have hkr : k < r.size := by omega
            have hb := byte_lt r[k]
            go_wp2
            go_region
            go_wp2
            go_roundw
            case rel =>
              refine ⟨k + 1, by omega, by go_num, ?_, (hb1.off (by simp) _).off (by simp) _, ((hbel.setCell (by simp) _).setCell (by simp) _).drew⟩
              rw [hsn.out hkr, raw_snoc, HU.out]
              exact (hb0.set 0 _).set 1 _
            case measure => simp [intOf]; omega
          · have hkn : n = k := by omega
            have HK := hide hkn
            clear hkn
            go_wp2
            go_roundw
            case rel =>
              have hkn := HK.out
              have hd := extract_drop r n
              have hmr := more_of_raw_in (r.data.toList.take n) (a0, b0) hu
              have hkn' : r.data.toList.take n = r.data.toList.take k := by rw [hkn]
              rw [hkn', HU.out] at hmr
              simp only at hmr
              refine ⟨r.extract n r.size, (x % 65521, y % 65521), rfl, by simp; omega, ?_, ?_, (hb0.set 0 _).set 1 _, (hb1.off (by simp) _).off (by simp) _, (hbel.setCell (by simp) _).setCell (by simp) _⟩
              · unfold In; simp only; omega
              · show more _ _ = _
                rw [hd, ← hmr, ← more_append, ← hkn', List.take_append_drop]
                exact hm.out
            case measure => simp [strLen]; omega
    · have hr0 := nil_of_size r h0
      have c0 := hb0.cell 0
      have c1 := hb0.cell 1
      have d0 := hb1.cell 0
      have d1 := hb1.cell 1
      have f0 := hb1.free 0
      have f1 := hb1.free 1
      simp only [List.getElem?_toArray, List.getElem?_cons_zero, List.getElem?_cons_succ] at c0 c1 d0 d1
      have HR := hide hr0
      clear hr0
      go_wp2
      have e := hm.out
      rw [HR.out, more_nil] at e
      rw [← e]
      refine bodyPost_ret (v := sv u) (by simp [results, Tryz.results126, go_sem, sv, d0, d1]) rfl ⟨rfl, ?_⟩
      exact (hbel.setCell (by simp) _).setCell (by simp) _
set_option maxHeartbeats 800000 in
theorem seal_of (a : Option Addr) (n c : Nat) (ss : Nat → ByteArray) (w : World) (hr : Rd w a n 1 (fun i => .string (ss i))) (hn : n ≤ maxLen) (hs : ∀ i, i < n → (ss i).size ≤ maxLen) :
    Calls Tryz.prog 72 #[.slice a n c] w fun e w' => e = .returned (sv (SealM.of (cat ss n))) ∧ Below w.heap.size w w' := by
  unfold maxLen at hn
  go_enter Tryz.func72, Tryz.ntmps72
  go_wp2_with fail
  refine (seal_begin _).mono ?_
  rintro e w1 ⟨rfl, hb1⟩
  have hz1 := hb1.size
  simp only [World.size_alloc] at hz1
  have hbl := (Blk.made w 126 #[.int .i64 0, .int .i64 0]).kept hb1
  go_wp2_with fail
  go_loopw [9] (fun i wr => ∃ k : Nat, k ≤ n ∧ i = .int .i64 k ∧ Blk wr w.heap.size 126 #[.int .i64 0, .int .i64 0] ∧ Blk wr w1.heap.size 126 #[.int .i64 (SealM.of (cat ss k)).1, .int .i64 (SealM.of (cat ss k)).2] ∧ Below w.heap.size w wr)
    (fun i _ => n - (intOf i).toNat)
  case atStart =>
    exact ⟨0, by omega, rfl, hbl.alloc _, Blk.made _ _ _, (((Below.refl _ _).alloc (Nat.le_refl _) _).trans (hb1.mono (by simp))).alloc (by omega) _⟩
  case round =>
    clear hbl
    obtain ⟨k, hk, rfl, hbl, hb2, hbel⟩ := hrel
    have hin := of_in (cat ss k)
    have c0 := hb2.cell 0
    have c1 := hb2.cell 1
    have f0 := hb2.free 0
    have f1 := hb2.free 1
    have d0 := hbl.cell 0
    have d1 := hbl.cell 1
    have g0 := hbl.free 0
    have g1 := hbl.free 1
    simp only [List.getElem?_toArray, List.getElem?_cons_zero, List.getElem?_cons_succ] at c0 c1 d0 d1
    by_cases hlt : k < n
    · obtain ⟨b, off, rfl, hb, hc⟩ := (hr.kept hbel) (by omega)
      have hck := hc k (by omega)
      have hsz := hide (hs k hlt)
      clear hc hs
      go_wp2_with fail
      refine (seal_more (SealM.of (cat ss k)) (ss k) _ hin hsz.out).mono ?_
      rintro e w2 ⟨rfl, hb3⟩
      have hbl2 := hbl.kept hb3
      have hb22 := hb2.kept hb3
      have hz3 := hb3.size
      have c0 := hb22.cell 0
      have c1 := hb22.cell 1
      have f0 := hb22.free 0
      have f1 := hb22.free 1
      simp only [List.getElem?_toArray, List.getElem?_cons_zero, List.getElem?_cons_succ] at c0 c1
      clear hck hsz
      go_wp2_with fail
      go_roundw
      case rel =>
        refine ⟨k + 1, by omega, by go_num, (hbl2.off (by simp; omega) _).off (by simp; omega) _, ?_, ((hbel.trans (hb3.mono hbel.size)).setCell (by simp; omega) _).setCell (by simp; omega) _⟩
        have e : SealM.of (cat ss (k + 1)) = more (SealM.of (cat ss k)) (ss k).data.toList := more_append _ _ _
        rw [e]
        exact (hb22.set 0 _).set 1 _
      case measure => simp [intOf]; omega
    · have hkn : n = k := by omega
      subst hkn
      go_wp2_with fail
      refine bodyPost_ret (v := sv (SealM.of (cat ss n))) (by simp [results, Tryz.results72, go_sem, sv, d0, d1]) rfl ⟨rfl, ?_⟩
      exact (hbel.setCell (by simp) _).setCell (by simp) _
/-- The sum of one text, out of the slice that holds it alone. -/
theorem seal_of1 (t : ByteArray) (g c : Nat) (w : World) (h : Blk w g 9 #[.string t]) (ht : t.size ≤ maxLen) :
    Calls Tryz.prog 72 #[.slice (some ⟨g, 0, none⟩) 1 c] w fun e w' => e = .returned (sv (SealM.of t.data.toList)) ∧ Below w.heap.size w w' := by
  have hr : Rd w (some ⟨g, 0, none⟩) 1 1 (fun _ => .string t) := Rd.of_blk h 0 (Nat.le_refl _) (by intro i hi; have h0 : i = 0 := (by omega); subst h0; rfl)
  exact seal_of (some ⟨g, 0, none⟩) 1 c (fun _ => t) w hr (by unfold maxLen; omega) (fun _ _ => ht)

theorem seal_seal (t : ByteArray) (w : World) (ht : t.size ≤ 140737488355327) :
    Calls Tryz.prog 32 #[.string t] w fun e w' => e = .returned (.string (sealed t)) ∧ Below w.heap.size w w' := by
  have hin := of_in t.data.toList
  have hlen := sumStr_size (SealM.of t.data.toList)
  go_enter Tryz.func32, Tryz.ntmps32
  go_wp2_with fail
  refine (seal_of1 t _ _ _ (Blk.made _ _ _) (by unfold maxLen; omega)).mono ?_
  rintro e w1 ⟨rfl, hb1⟩
  go_wp2_with fail
  refine (seal_bytes _ _ hin).mono ?_
  rintro e w2 ⟨rfl, hb2⟩
  go_wp2_with fail
  go_ret
  refine ⟨rfl, ?_⟩
  exact ((Below.refl _ _).alloc (Nat.le_refl _) _).trans ((hb1.mono (by simp)).trans (hb2.mono (by have := hb1.size; simp at this; omega)))

theorem of_a : SealM.of [97] = (98, 98) := by decide
theorem sealed_a : sealed ⟨#[97]⟩ = ⟨#[97, 0, 98, 0, 98]⟩ := by decide +kernel

theorem seal_open_short (x : ByteArray) (w : World) (hx : x.size < 4) : Calls Tryz.prog 110 #[.string x] w fun e w' => e = .returned (.tuple #[.string ⟨#[]⟩, .int .i64 9]) ∧ w = w' := by
  go_enter Tryz.func110, Tryz.ntmps110
  go_wp2_with fail
  go_ret2
  exact ⟨rfl, rfl⟩

set_option maxHeartbeats 400000 in
theorem seal_open_yes (x : ByteArray) (w : World) (hx : 4 ≤ x.size) (hs : x.size ≤ maxLen) (hy : sumStr (SealM.of (x.data.toList.take (x.size - 4))) = x.extract (x.size - 4) x.size) :
    Calls Tryz.prog 110 #[.string x] w fun e w' => e = .returned (.tuple #[.string (x.extract 0 (x.size - 4)), .int .i64 0]) ∧ Below w.heap.size w w' := by
  unfold maxLen at hs
  have HY := hide hy
  clear hy
  have hto : ((x.size : Int) - 4).toNat = x.size - 4 := by omega
  go_enter Tryz.func110, Tryz.ntmps110
  go_wp2_with fail
  go_region_with (first
    | (go_at_call 72; refine (seal_of1 _ _ _ _ (Blk.made _ _ _).drew ?_).mono ?_; (simp [maxLen]; omega); rintro e w1 ⟨rfl, hb1⟩)
    | (go_at_call 73; refine (seal_bytes _ _ (of_in _)).mono ?_; rw [HY.out]; rintro e w2 ⟨rfl, hb2⟩))
  all_goals
    go_wp2_with fail
    go_ret2
    refine ⟨rfl, ?_⟩
    exact ((Below.refl _ _).alloc (Nat.le_refl _) _).drew.trans ((hb1.mono (by simp)).trans (hb2.mono (by have := hb1.size; simp at this; omega)))

set_option maxHeartbeats 400000 in
theorem seal_open_no (x : ByteArray) (w : World) (hx : 4 ≤ x.size) (hs : x.size ≤ maxLen) (hy : ¬ sumStr (SealM.of (x.data.toList.take (x.size - 4))) = x.extract (x.size - 4) x.size) :
    Calls Tryz.prog 110 #[.string x] w fun e w' => e = .returned (.tuple #[.string ⟨#[]⟩, .int .i64 12]) ∧ Below w.heap.size w w' := by
  unfold maxLen at hs
  have hto : ((x.size : Int) - 4).toNat = x.size - 4 := by omega
  obtain ⟨y, hy2, hne⟩ : ∃ y : ByteArray, Hid (sumStr (SealM.of (x.data.toList.take (x.size - 4))) = y) ∧ (y.toList == (x.extract (x.size - 4) x.size).toList) = false := ⟨_, rfl, str_ne hy⟩
  clear hy
  go_enter Tryz.func110, Tryz.ntmps110
  go_wp2_with fail
  go_region_with (first
    | (go_at_call 72; refine (seal_of1 _ _ _ _ (Blk.made _ _ _).drew ?_).mono ?_; (simp [maxLen]; omega); rintro e w1 ⟨rfl, hb1⟩)
    | (go_at_call 73; refine (seal_bytes _ _ (of_in _)).mono ?_; rw [hy2.out]; rintro e w2 ⟨rfl, hb2⟩))
  all_goals
    go_wp2_with fail
    go_ret2
    refine ⟨rfl, ?_⟩
    exact ((Below.refl _ _).alloc (Nat.le_refl _) _).drew.trans ((hb1.mono (by simp)).trans (hb2.mono (by have := hb1.size; simp at this; omega)))

/-- What opening a text comes to. -/
def openRes (x : ByteArray) : ByteArray × Int :=
  if x.size < 4 then (⟨#[]⟩, 9)
  else if sumStr (SealM.of (x.data.toList.take (x.size - 4))) = x.extract (x.size - 4) x.size then (x.extract 0 (x.size - 4), 0) else (⟨#[]⟩, 12)

theorem seal_open (x : ByteArray) (w : World) (hs : x.size ≤ maxLen) :
    Calls Tryz.prog 110 #[.string x] w fun e w' => e = .returned (.tuple #[.string (openRes x).1, .int .i64 (openRes x).2]) ∧ Below w.heap.size w w' := by
  unfold openRes
  by_cases h1 : x.size < 4
  · rw [if_pos h1]
    exact (seal_open_short x w h1).mono fun e w' ⟨he, hw⟩ => ⟨he, hw ▸ Below.refl _ _⟩
  · rw [if_neg h1]
    by_cases h2 : sumStr (SealM.of (x.data.toList.take (x.size - 4))) = x.extract (x.size - 4) x.size
    · rw [if_pos h2]
      exact seal_open_yes x w (by omega) hs h2
    · rw [if_neg h2]
      exact seal_open_no x w (by omega) hs h2

theorem open_split (x : ByteArray) (hx : 4 ≤ x.size) : x = x.extract 0 (x.size - 4) ++ x.extract (x.size - 4) x.size := by
  apply str_ext
  rw [ByteArray.data_append, Array.toList_append, extract_take, extract_drop, List.take_append_drop]
theorem sealed_iff (x : ByteArray) (hx : 4 ≤ x.size) : sealed (x.extract 0 (x.size - 4)) = x ↔ sumStr (SealM.of (x.data.toList.take (x.size - 4))) = x.extract (x.size - 4) x.size := by
  have h := open_split x hx
  have e : sealed (x.extract 0 (x.size - 4)) = x.extract 0 (x.size - 4) ++ sumStr (SealM.of (x.data.toList.take (x.size - 4))) := by
    unfold sealed; rw [extract_take]
  rw [e]
  constructor
  · intro k
    apply str_ext
    have k2 := k.trans h
    have k3 := congrArg (fun b : ByteArray => b.data.toList) k2
    simp only [ByteArray.data_append, Array.toList_append] at k3
    exact List.append_cancel_left k3
  · intro k
    rw [k]
    exact h.symm

end Go.Proofs.YteebghoijaaakaaGreat
