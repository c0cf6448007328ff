/- Plain facts on the numbers of layer 22, back and forth: what is put is read, what is read was put so. No program in sight. By the prover of this repo. -/
import Derived.Test.YtclndbaafibaiaaVaryN
namespace Go.Proofs.Ytclndbaafibaiaa
namespace VaryM

theorem byte_hi (m : Nat) : (UInt8.ofNat (128 + m % 128)).toNat = 128 + m % 128 := by rw [UInt8.toNat_ofNat', Nat.mod_eq_of_lt (by omega)]
theorem byte_lo {m : Nat} (h : m < 128) : (UInt8.ofNat m).toNat = m := by rw [UInt8.toNat_ofNat', Nat.mod_eq_of_lt (by omega)]

theorem getGo_enc : ∀ (k m i n p : Nat) (r : List UInt8), (enc m).length = k → i + k ≤ 9 → (0 < i → 0 < m) → getGo i n p (enc m ++ r) = (n + m * p, i + k, 0) := by
  intro k
  induction k with
  | zero => intro m i n p r h; have := enc_pos m; omega
  | succ k ih =>
    intro m i n p r h hi hz
    by_cases hm : m < 128
    · rw [enc_lt hm] at h ⊢
      simp only [List.length_cons, List.length_nil] at h
      show getGo i n p (UInt8.ofNat m :: r) = _
      simp only [getGo]
      rw [if_neg (by omega), byte_lo hm, if_pos hm, if_neg (by omega)]
      have : k = 0 := by omega
      subst this
      rfl
    · rw [enc_ge (by omega)] at h ⊢
      simp only [List.length_cons] at h
      show getGo i n p (UInt8.ofNat (128 + m % 128) :: (enc (m / 128) ++ r)) = _
      have := enc_pos (m / 128)
      simp only [getGo]
      rw [if_neg (by omega), byte_hi, if_neg (by omega), ih (m / 128) (i + 1) _ _ r (by omega) (by omega) (by omega)]
      have e1 : (128 + m % 128 - 128) = m % 128 := by omega
      have e2 : m * p = (m % 128) * p + (m / 128) * (p * 128) := by
        have h3 : m = m % 128 + 128 * (m / 128) := by omega
        calc m * p = (m % 128 + 128 * (m / 128)) * p := by rw [← h3]
          _ = (m % 128) * p + (m / 128) * (p * 128) := by rw [Nat.add_mul, Nat.mul_comm 128 (m / 128), Nat.mul_assoc, Nat.mul_comm 128 p]
      rw [e1, e2]
      exact Prod.ext (by simp; omega) (Prod.ext (by simp; omega) rfl)

/-- What is put is read again, whatever stands behind it. -/
theorem get_enc {m : Nat} (h : m ≤ 9223372036854775807) (r : List UInt8) : get (enc m ++ r) = (m, (enc m).length, 0) := by
  unfold get
  rw [getGo_enc _ m 0 0 1 r rfl (by have := enc_len9 h; omega) (by omega)]
  simp

theorem getGo_back : ∀ (l : List UInt8) (i n p N sz : Nat), getGo i n p l = (N, sz, 0) → ∃ m, N = n + m * p ∧ sz = i + (enc m).length ∧ l.take (enc m).length = enc m ∧ (0 < i → 0 < m)
  | [], i, n, p, N, sz, h => by
    simp only [getGo] at h
    split at h <;> simp at h
  | c :: r, i, n, p, N, sz, h => by
    simp only [getGo] at h
    split at h
    · simp at h
    · split at h
      · rename_i hc
        split at h
        · simp at h
        · rename_i hz
          injection h with h1 h2
          injection h2 with h2 _
          refine ⟨c.toNat, h1.symm, by rw [enc_lt hc, ← h2]; rfl, ?_, by omega⟩
          rw [enc_lt hc]
          simp
      · rename_i hc
        have hc2 : c.toNat < 256 := c.toNat_lt
        obtain ⟨m, h1, h2, h3, h4⟩ := getGo_back r (i + 1) _ _ N sz h
        have hm := h4 (by omega)
        have hdiv : ((c.toNat - 128) + 128 * m) / 128 = m := by omega
        have hmod : ((c.toNat - 128) + 128 * m) % 128 = c.toNat - 128 := by omega
        have henc : enc ((c.toNat - 128) + 128 * m) = c :: enc m := by
          rw [enc_ge (by omega), hdiv, hmod, show 128 + (c.toNat - 128) = c.toNat by omega, UInt8.ofNat_toNat]
        refine ⟨(c.toNat - 128) + 128 * m, ?_, ?_, ?_, by omega⟩
        · rw [h1, Nat.add_mul, Nat.mul_comm 128 m, Nat.mul_assoc, Nat.mul_comm 128 p, Nat.add_assoc]
        · rw [henc, h2, List.length_cons]; omega
        · rw [henc, List.length_cons, List.take_succ_cons, h3]

/-- What is read has just these bytes. -/
theorem get_back {l : List UInt8} {N sz : Nat} (h : get l = (N, sz, 0)) : sz = (enc N).length ∧ l.take sz = enc N := by
  unfold get at h
  obtain ⟨m, h1, h2, h3, _⟩ := getGo_back l 0 0 1 N sz h
  have : N = m := by omega
  subst this
  have h4 : sz = (enc N).length := by omega
  exact ⟨h4, by rw [h4]; exact h3⟩

/-- The bytes of numbers, as a list's. -/
def encL (L : List Int) : List UInt8 := L.flatMap fun x => enc x.toNat
theorem encs_list (f : Nat → Int) : ∀ k, encs f k = encL ((List.range k).map f)
  | 0 => rfl
  | k + 1 => by
    rw [List.range_succ, List.map_append]
    unfold encL
    rw [List.flatMap_append]
    have := encs_list f k
    unfold encL at this
    rw [encs, this]
    simp

theorem allGo_encL : ∀ (L : List Int) (f : Nat) (acc : List Int), (∀ x ∈ L, 0 ≤ x ∧ x ≤ 9223372036854775807) → (encL L).length ≤ f → allGo f acc (encL L) = (acc ++ L, 0)
  | [], f, acc, _, _ => by simp [encL, allGo_nil]
  | x :: L, f, acc, h, hf => by
    have hx := h x (by simp)
    have e : encL (x :: L) = enc x.toNat ++ encL L := by simp [encL]
    have hg := get_enc (m := x.toNat) (by omega) (encL L)
    have hp := enc_pos x.toNat
    have hne : encL (x :: L) ≠ [] := by rw [e]; intro h; have := congrArg List.length h; simp only [List.length_append, List.length_nil] at this; omega
    rw [← e] at hg
    obtain ⟨f', rfl, h1, h2⟩ := allGo_on (acc := acc) hne hf (by rw [hg])
    rw [h2, hg]
    have hd : (encL (x :: L)).drop (enc x.toNat).length = encL L := by rw [e]; simp
    rw [hg] at h1
    simp only at h1 ⊢
    rw [hd] at h1 ⊢
    rw [allGo_encL L f' _ (fun y hy => h y (by simp [hy])) h1]
    have : ((x.toNat : Nat) : Int) = x := by omega
    rw [this]
    simp
/-- All that is put is read again. -/
theorem all_encs {f : Nat → Int} {k : Nat} (h : ∀ i, i < k → 0 ≤ f i ∧ f i ≤ 9223372036854775807) : all (encs f k) = ((List.range k).map f, 0) := by
  rw [encs_list]
  unfold all
  rw [allGo_encL _ _ _ (by intro x hx; simp at hx; obtain ⟨i, hi, rfl⟩ := hx; exact h i hi) (Nat.le_refl _)]
  simp

/-- Rising numbers by how far each rises. -/
def rise (last : Int) : List Int → List Int
  | [] => []
  | x :: L => (x - last) :: rise x L
/-- A list that rises from a number on. -/
def Rises (last : Int) : List Int → Prop
  | [] => True
  | x :: L => last < x ∧ Rises x L

theorem rise_len : ∀ (last : Int) (L : List Int), (rise last L).length = L.length
  | _, [] => rfl
  | last, x :: L => by simp [rise, rise_len x L]

theorem fallGo_rise : ∀ (L : List Int) (l r : List UInt8) (last at_ : Nat) (acc : List Int), l.drop at_ = encL (rise last L) ++ r → Rises last L → (∀ x ∈ L, x ≤ 9223372036854775807) →
    fallGo l L.length acc last at_ = (acc ++ L, ((at_ + (encL (rise last L)).length : Nat) : Int), 0)
  | [], l, r, last, at_, acc, _, _, _ => by simp [fallGo, rise, encL]
  | x :: L, l, r, last, at_, acc, hd, hr, hx => by
    obtain ⟨h1, h2⟩ := hr
    have hx1 := hx x (by simp)
    have e : encL (rise last (x :: L)) = enc (x - last).toNat ++ encL (rise x L) := by simp [encL, rise]
    have hg : get (l.drop at_) = ((x - last).toNat, (enc (x - last).toNat).length, 0) := by
      rw [hd, e, List.append_assoc]; exact get_enc (by omega) _
    have hlast : ((last + (x - last).toNat : Nat) : Int) = x := by omega
    have hd2 : l.drop (at_ + (enc (x - last).toNat).length) = encL (rise ((last + (x - last).toNat : Nat) : Int) L) ++ r := by
      rw [← List.drop_drop, hd, e, hlast, List.append_assoc]; simp
    rw [List.length_cons, fallGo_on hg (by omega), fallGo_rise L l r _ _ _ hd2 (by rw [hlast]; exact h2) (fun y hy => hx y (by simp [hy])), hlast, e]
    refine Prod.ext (by simp) (Prod.ext ?_ rfl)
    simp only [List.length_append]
    omega

/-- Rising numbers are read again, whatever stands behind them. -/
theorem fall_rise {L : List Int} (r : List UInt8) (hL : L.length ≤ 1000000) (hr : Rises 0 L) (hx : ∀ x ∈ L, x ≤ 9223372036854775807) :
    fall (enc L.length ++ encL (rise 0 L) ++ r) (L.length : Int) = (L, ((enc L.length ++ encL (rise 0 L)).length : Int), 0) := by
  have hg := get_enc (m := L.length) (by omega) (encL (rise 0 L) ++ r)
  rw [← List.append_assoc] at hg
  unfold fall
  rw [hg, if_neg (by simp), if_neg (by simp)]
  show fallGo _ L.length [] 0 _ = _
  rw [fallGo_rise L _ r 0 _ [] (by rw [List.append_assoc]; simp) hr hx]
  simp

theorem fallGo_back : ∀ (k : Nat) (l : List UInt8) (acc : List Int) (last at_ : Nat) (L : List Int) (z : Int), fallGo l k acc last at_ = (L, z, 0) → at_ ≤ l.length → last ≤ 9223372036854775807 →
    ∃ M : List Int, L = acc ++ M ∧ M.length = k ∧ Rises last M ∧ (∀ x ∈ M, x ≤ 9223372036854775807) ∧ z = ((at_ + (encL (rise last M)).length : Nat) : Int) ∧ (l.drop at_).take (encL (rise last M)).length = encL (rise last M) ∧ at_ + (encL (rise last M)).length ≤ l.length
  | 0, l, acc, last, at_, L, z, h, ha, _ => by
    simp only [fallGo] at h
    injection h with h1 h2
    injection h2 with h2 _
    exact ⟨[], by simp [h1], rfl, trivial, by simp, by simp [rise, encL, h2], by simp [rise, encL], by simpa [rise, encL] using ha⟩
  | k + 1, l, acc, last, at_, L, z, h, ha, hl => by
    generalize hg : get (l.drop at_) = g at h
    obtain ⟨n, sz, e⟩ := g
    by_cases he : e = 0
    · subst he
      by_cases hn : n = 0 ∨ 9223372036854775807 - last < n
      · rw [fallGo_form hg hn] at h
        simp at h
      · rw [fallGo_on hg hn] at h
        obtain ⟨hb1, hb2⟩ := get_back hg
        have hf := (get_facts (l.drop at_)).2.1 (by rw [hg])
        rw [hg] at hf
        simp only [List.length_drop] at hf
        obtain ⟨M, h1, h2, h3, h4, h5, h6, h7⟩ := fallGo_back k l _ _ _ L z h (by omega) (by omega)
        have e : encL (rise last (((last + n : Nat) : Int) :: M)) = enc n ++ encL (rise ((last + n : Nat) : Int) M) := by
          simp only [encL, rise, List.flatMap_cons]
          rw [show (((last + n : Nat) : Int) - (last : Int)).toNat = n by omega]
        refine ⟨((last + n : Nat) : Int) :: M, by rw [h1]; simp, by simp [h2], ⟨by omega, h3⟩, ?_, ?_, ?_, ?_⟩
        · intro x hx
          rcases List.mem_cons.1 hx with rfl | hx
          · omega
          · exact h4 x hx
        · rw [h5, e, List.length_append, hb1]; omega
        · rw [e, List.length_append, List.take_add, ← hb1, hb2, List.drop_drop, h6]
        · rw [e, List.length_append, ← hb1]; omega
    · rw [fallGo_err hg he] at h
      simp at h
      omega

/-- What is read has just these bytes. -/
theorem fall_back {l : List UInt8} {most z : Int} {L : List Int} (h : fall l most = (L, z, 0)) :
    Rises 0 L ∧ (∀ x ∈ L, x ≤ 9223372036854775807) ∧ z = ((enc L.length ++ encL (rise 0 L)).length : Int) ∧ l.take (enc L.length ++ encL (rise 0 L)).length = enc L.length ++ encL (rise 0 L) ∧ (enc L.length ++ encL (rise 0 L)).length ≤ l.length := by
  unfold fall at h
  generalize hg : get l = g at h
  obtain ⟨n, sz, e⟩ := g
  simp only at h
  split at h
  · simp at h; omega
  · rename_i he
    have he : e = 0 := by omega
    subst he
    split at h
    · simp at h
    · obtain ⟨hb1, hb2⟩ := get_back hg
      have hf := (get_facts l).2.1 (by rw [hg])
      rw [hg] at hf
      simp only at hf
      obtain ⟨M, h1, h2, h3, h4, h5, h6, h7⟩ := fallGo_back n l [] 0 sz L z h (by omega) (by omega)
      obtain rfl : L = M := by simpa using h1
      rw [h2]
      refine ⟨h3, h4, ?_, ?_, ?_⟩
      · rw [h5, List.length_append, hb1]; rfl
      · rw [List.length_append, List.take_add, ← hb1, hb2]
        congr 1
      · rw [List.length_append, ← hb1]; exact h7
end VaryM
end Go.Proofs.Ytclndbaafibaiaa
