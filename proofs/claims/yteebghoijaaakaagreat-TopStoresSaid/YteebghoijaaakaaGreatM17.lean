/- Part 17 of the proof: texts joined by this repo's tools/merge2.py (VaryB VaryA VaryF VaryR VaryS Dig SplM RangeC RangeQ). By the prover of this repo. -/
import Derived.Test.YteebghoijaaakaaGreatM8
import Derived.Test.YteebghoijaaakaaGreatM16
import Derived.Test.YteebghoijaaakaaGreatM3
import Derived.Test.YteebghoijaaakaaGreatM1
import Derived.Lib.Strings
import Derived.Lib.IndexLaws
import Derived.RangeFuncWrites
import Derived.RangeFuncNested
set_option linter.unusedVariables false
set_option linter.unusedSimpArgs false
/- Plain facts on the numbers of layer 22, back and forth: what is put is read, what is read was put so. No program in sight. By the prover of this repo. -/
namespace Go.Proofs.YteebghoijaaakaaGreat
namespace VaryM

theorem byte_hi (m : Nat) : (UInt8.ofNat (128 + m % 128)).toNat = 128 + m % 128 := by rw [UInt8.toNat_ofNat', Nat.mod_eq_of_lt (by omega)]
theorem byte_lo {m : Nat} (h : m < 128) : (UInt8.ofNat m).toNat = m := by rw [UInt8.toNat_ofNat', Nat.mod_eq_of_lt (by omega)]

theorem getGo_enc : ∀ (k m i n p : Nat) (r : List UInt8), (enc m).length = k → i + k ≤ 9 → (0 < i → 0 < m) → getGo i n p (enc m ++ r) = (n + m * p, i + k, 0) := by
  intro k
  induction k with
  | zero => intro m i n p r h; have := enc_pos m; omega
  | succ k ih =>
    intro m i n p r h hi hz
    by_cases hm : m < 128
    · rw [enc_lt hm] at h ⊢
      simp only [List.length_cons, List.length_nil] at h
      show getGo i n p (UInt8.ofNat m :: r) = _
      simp only [getGo]
      rw [if_neg (by omega), byte_lo hm, if_pos hm, if_neg (by omega)]
      have : k = 0 := by omega
      subst this
      rfl
    · rw [enc_ge (by omega)] at h ⊢
      simp only [List.length_cons] at h
      show getGo i n p (UInt8.ofNat (128 + m % 128) :: (enc (m / 128) ++ r)) = _
      have := enc_pos (m / 128)
      simp only [getGo]
      rw [if_neg (by omega), byte_hi, if_neg (by omega), ih (m / 128) (i + 1) _ _ r (by omega) (by omega) (by omega)]
      have e1 : (128 + m % 128 - 128) = m % 128 := by omega
      have e2 : m * p = (m % 128) * p + (m / 128) * (p * 128) := by
        have h3 : m = m % 128 + 128 * (m / 128) := by omega
        calc m * p = (m % 128 + 128 * (m / 128)) * p := by rw [← h3]
          _ = (m % 128) * p + (m / 128) * (p * 128) := by rw [Nat.add_mul, Nat.mul_comm 128 (m / 128), Nat.mul_assoc, Nat.mul_comm 128 p]
      rw [e1, e2]
      exact Prod.ext (by simp; omega) (Prod.ext (by simp; omega) rfl)

/-- What is put is read again, whatever stands behind it. -/
theorem get_enc {m : Nat} (h : m ≤ 9223372036854775807) (r : List UInt8) : get (enc m ++ r) = (m, (enc m).length, 0) := by
  unfold get
  rw [getGo_enc _ m 0 0 1 r rfl (by have := enc_len9 h; omega) (by omega)]
  simp

theorem getGo_back : ∀ (l : List UInt8) (i n p N sz : Nat), getGo i n p l = (N, sz, 0) → ∃ m, N = n + m * p ∧ sz = i + (enc m).length ∧ l.take (enc m).length = enc m ∧ (0 < i → 0 < m)
  | [], i, n, p, N, sz, h => by
    simp only [getGo] at h
    split at h <;> simp at h
  | c :: r, i, n, p, N, sz, h => by
    simp only [getGo] at h
    split at h
    · simp at h
    · split at h
      · rename_i hc
        split at h
        · simp at h
        · rename_i hz
          injection h with h1 h2
          injection h2 with h2 _
          refine ⟨c.toNat, h1.symm, by rw [enc_lt hc, ← h2]; rfl, ?_, by omega⟩
          rw [enc_lt hc]
          simp
      · rename_i hc
        have hc2 : c.toNat < 256 := c.toNat_lt
        obtain ⟨m, h1, h2, h3, h4⟩ := getGo_back r (i + 1) _ _ N sz h
        have hm := h4 (by omega)
        have hdiv : ((c.toNat - 128) + 128 * m) / 128 = m := by omega
        have hmod : ((c.toNat - 128) + 128 * m) % 128 = c.toNat - 128 := by omega
        have henc : enc ((c.toNat - 128) + 128 * m) = c :: enc m := by
          rw [enc_ge (by omega), hdiv, hmod, show 128 + (c.toNat - 128) = c.toNat by omega, UInt8.ofNat_toNat]
        refine ⟨(c.toNat - 128) + 128 * m, ?_, ?_, ?_, by omega⟩
        · rw [h1, Nat.add_mul, Nat.mul_comm 128 m, Nat.mul_assoc, Nat.mul_comm 128 p, Nat.add_assoc]
        · rw [henc, h2, List.length_cons]; omega
        · rw [henc, List.length_cons, List.take_succ_cons, h3]

/-- What is read has just these bytes. -/
theorem get_back {l : List UInt8} {N sz : Nat} (h : get l = (N, sz, 0)) : sz = (enc N).length ∧ l.take sz = enc N := by
  unfold get at h
  obtain ⟨m, h1, h2, h3, _⟩ := getGo_back l 0 0 1 N sz h
  have : N = m := by omega
  subst this
  have h4 : sz = (enc N).length := by omega
  exact ⟨h4, by rw [h4]; exact h3⟩

/-- The bytes of numbers, as a list's. -/
def encL (L : List Int) : List UInt8 := L.flatMap fun x => enc x.toNat
theorem encs_list (f : Nat → Int) : ∀ k, encs f k = encL ((List.range k).map f)
  | 0 => rfl
  | k + 1 => by
    rw [List.range_succ, List.map_append]
    unfold encL
    rw [List.flatMap_append]
    have := encs_list f k
    unfold encL at this
    rw [encs, this]
    simp

theorem allGo_encL : ∀ (L : List Int) (f : Nat) (acc : List Int), (∀ x ∈ L, 0 ≤ x ∧ x ≤ 9223372036854775807) → (encL L).length ≤ f → allGo f acc (encL L) = (acc ++ L, 0)
  | [], f, acc, _, _ => by simp [encL, allGo_nil]
  | x :: L, f, acc, h, hf => by
    have hx := h x (by simp)
    have e : encL (x :: L) = enc x.toNat ++ encL L := by simp [encL]
    have hg := get_enc (m := x.toNat) (by omega) (encL L)
    have hp := enc_pos x.toNat
    have hne : encL (x :: L) ≠ [] := by rw [e]; intro h; have := congrArg List.length h; simp only [List.length_append, List.length_nil] at this; omega
    rw [← e] at hg
    obtain ⟨f', rfl, h1, h2⟩ := allGo_on (acc := acc) hne hf (by rw [hg])
    rw [h2, hg]
    have hd : (encL (x :: L)).drop (enc x.toNat).length = encL L := by rw [e]; simp
    rw [hg] at h1
    simp only at h1 ⊢
    rw [hd] at h1 ⊢
    rw [allGo_encL L f' _ (fun y hy => h y (by simp [hy])) h1]
    have : ((x.toNat : Nat) : Int) = x := by omega
    rw [this]
    simp
/-- All that is put is read again. -/
theorem all_encs {f : Nat → Int} {k : Nat} (h : ∀ i, i < k → 0 ≤ f i ∧ f i ≤ 9223372036854775807) : all (encs f k) = ((List.range k).map f, 0) := by
  rw [encs_list]
  unfold all
  rw [allGo_encL _ _ _ (by intro x hx; simp at hx; obtain ⟨i, hi, rfl⟩ := hx; exact h i hi) (Nat.le_refl _)]
  simp

/-- Rising numbers by how far each rises. -/
def rise (last : Int) : List Int → List Int
  | [] => []
  | x :: L => (x - last) :: rise x L
/-- A list that rises from a number on. -/
def Rises (last : Int) : List Int → Prop
  | [] => True
  | x :: L => last < x ∧ Rises x L

theorem rise_len : ∀ (last : Int) (L : List Int), (rise last L).length = L.length
  | _, [] => rfl
  | last, x :: L => by simp [rise, rise_len x L]

theorem fallGo_rise : ∀ (L : List Int) (l r : List UInt8) (last at_ : Nat) (acc : List Int), l.drop at_ = encL (rise last L) ++ r → Rises last L → (∀ x ∈ L, x ≤ 9223372036854775807) →
    fallGo l L.length acc last at_ = (acc ++ L, ((at_ + (encL (rise last L)).length : Nat) : Int), 0)
  | [], l, r, last, at_, acc, _, _, _ => by simp [fallGo, rise, encL]
  | x :: L, l, r, last, at_, acc, hd, hr, hx => by
    obtain ⟨h1, h2⟩ := hr
    have hx1 := hx x (by simp)
    have e : encL (rise last (x :: L)) = enc (x - last).toNat ++ encL (rise x L) := by simp [encL, rise]
    have hg : get (l.drop at_) = ((x - last).toNat, (enc (x - last).toNat).length, 0) := by
      rw [hd, e, List.append_assoc]; exact get_enc (by omega) _
    have hlast : ((last + (x - last).toNat : Nat) : Int) = x := by omega
    have hd2 : l.drop (at_ + (enc (x - last).toNat).length) = encL (rise ((last + (x - last).toNat : Nat) : Int) L) ++ r := by
      rw [← List.drop_drop, hd, e, hlast, List.append_assoc]; simp
    rw [List.length_cons, fallGo_on hg (by omega), fallGo_rise L l r _ _ _ hd2 (by rw [hlast]; exact h2) (fun y hy => hx y (by simp [hy])), hlast, e]
    refine Prod.ext (by simp) (Prod.ext ?_ rfl)
    simp only [List.length_append]
    omega

/-- Rising numbers are read again, whatever stands behind them. -/
theorem fall_rise {L : List Int} (r : List UInt8) (hL : L.length ≤ 1000000) (hr : Rises 0 L) (hx : ∀ x ∈ L, x ≤ 9223372036854775807) :
    fall (enc L.length ++ encL (rise 0 L) ++ r) (L.length : Int) = (L, ((enc L.length ++ encL (rise 0 L)).length : Int), 0) := by
  have hg := get_enc (m := L.length) (by omega) (encL (rise 0 L) ++ r)
  rw [← List.append_assoc] at hg
  unfold fall
  rw [hg, if_neg (by simp), if_neg (by simp)]
  show fallGo _ L.length [] 0 _ = _
  rw [fallGo_rise L _ r 0 _ [] (by rw [List.append_assoc]; simp) hr hx]
  simp

theorem fallGo_back : ∀ (k : Nat) (l : List UInt8) (acc : List Int) (last at_ : Nat) (L : List Int) (z : Int), fallGo l k acc last at_ = (L, z, 0) → at_ ≤ l.length → last ≤ 9223372036854775807 →
    ∃ M : List Int, L = acc ++ M ∧ M.length = k ∧ Rises last M ∧ (∀ x ∈ M, x ≤ 9223372036854775807) ∧ z = ((at_ + (encL (rise last M)).length : Nat) : Int) ∧ (l.drop at_).take (encL (rise last M)).length = encL (rise last M) ∧ at_ + (encL (rise last M)).length ≤ l.length
  | 0, l, acc, last, at_, L, z, h, ha, _ => by
    simp only [fallGo] at h
    injection h with h1 h2
    injection h2 with h2 _
    exact ⟨[], by simp [h1], rfl, trivial, by simp, by simp [rise, encL, h2], by simp [rise, encL], by simpa [rise, encL] using ha⟩
  | k + 1, l, acc, last, at_, L, z, h, ha, hl => by
    generalize hg : get (l.drop at_) = g at h
    obtain ⟨n, sz, e⟩ := g
    by_cases he : e = 0
    · subst he
      by_cases hn : n = 0 ∨ 9223372036854775807 - last < n
      · rw [fallGo_form hg hn] at h
        simp at h
      · rw [fallGo_on hg hn] at h
        obtain ⟨hb1, hb2⟩ := get_back hg
        have hf := (get_facts (l.drop at_)).2.1 (by rw [hg])
        rw [hg] at hf
        simp only [List.length_drop] at hf
        obtain ⟨M, h1, h2, h3, h4, h5, h6, h7⟩ := fallGo_back k l _ _ _ L z h (by omega) (by omega)
        have e : encL (rise last (((last + n : Nat) : Int) :: M)) = enc n ++ encL (rise ((last + n : Nat) : Int) M) := by
          simp only [encL, rise, List.flatMap_cons]
          rw [show (((last + n : Nat) : Int) - (last : Int)).toNat = n by omega]
        refine ⟨((last + n : Nat) : Int) :: M, by rw [h1]; simp, by simp [h2], ⟨by omega, h3⟩, ?_, ?_, ?_, ?_⟩
        · intro x hx
          rcases List.mem_cons.1 hx with rfl | hx
          · omega
          · exact h4 x hx
        · rw [h5, e, List.length_append, hb1]; omega
        · rw [e, List.length_append, List.take_add, ← hb1, hb2, List.drop_drop, h6]
        · rw [e, List.length_append, ← hb1]; omega
    · rw [fallGo_err hg he] at h
      simp at h
      omega

/-- What is read has just these bytes. -/
theorem fall_back {l : List UInt8} {most z : Int} {L : List Int} (h : fall l most = (L, z, 0)) :
    Rises 0 L ∧ (∀ x ∈ L, x ≤ 9223372036854775807) ∧ z = ((enc L.length ++ encL (rise 0 L)).length : Int) ∧ l.take (enc L.length ++ encL (rise 0 L)).length = enc L.length ++ encL (rise 0 L) ∧ (enc L.length ++ encL (rise 0 L)).length ≤ l.length := by
  unfold fall at h
  generalize hg : get l = g at h
  obtain ⟨n, sz, e⟩ := g
  simp only at h
  split at h
  · simp at h; omega
  · rename_i he
    have he : e = 0 := by omega
    subst he
    split at h
    · simp at h
    · obtain ⟨hb1, hb2⟩ := get_back hg
      have hf := (get_facts l).2.1 (by rw [hg])
      rw [hg] at hf
      simp only at hf
      obtain ⟨M, h1, h2, h3, h4, h5, h6, h7⟩ := fallGo_back n l [] 0 sz L z h (by omega) (by omega)
      obtain rfl : L = M := by simpa using h1
      rw [h2]
      refine ⟨h3, h4, ?_, ?_, ?_⟩
      · rw [h5, List.length_append, hb1]; rfl
      · rw [List.length_append, List.take_add, ← hb1, hb2]
        congr 1
      · rw [List.length_append, ← hb1]; exact h7
end VaryM
end Go.Proofs.YteebghoijaaakaaGreat
/- The walks of layer 22, on: All, the reference's, and whether two lists are the same. By the prover of this repo. -/
namespace Go.Proofs.YteebghoijaaakaaGreat
open Go.RowKit
open VaryM

theorem elInt : Elem Tryz.prog 22 3 (.int .i64 0) 1 8 := ⟨Tryz.underlying22, by kernel_rfl, rfl, by omega⟩
/-- A number as a value. -/
def iv (n : Int) : Value := .int .i64 n
theorem own_nil_ints (w : World) (base : Nat) : w.ownsRow base 3 1 (.slice none 0 0) ([] : List Int).length (([] : List Int).map iv) := World.ownsRow_nil _ _ _ _
theorem list_size (s : ByteArray) : s.data.toList.length = s.size := by simp

end Go.Proofs.YteebghoijaaakaaGreat
/- The walks of layer 22, on: Falls and the reference's. By the prover of this repo. -/
namespace Go.Proofs.YteebghoijaaakaaGreat
open Go.RowKit
open VaryM

theorem drop_size (s : ByteArray) (k : Nat) : (s.extract k s.size).size ≤ s.size := by simp

set_option maxRecDepth 100000 in
set_option maxHeartbeats 800000 in
theorem vary_falls (s : ByteArray) (most : Int) (w : World) (hs : s.size ≤ 100000) (hm0 : -9223372036854775808 ≤ most) (hm1 : most ≤ 9223372036854775807) :
    Calls Tryz.prog 185 #[.string s, .int .i64 most] w fun e w' => ∃ v, e = .returned (.tuple #[v, .int .i64 (fall s.data.toList most).2.1, .int .i64 (fall s.data.toList most).2.2]) ∧ w'.ownsRow w.heap.size 3 1 v (fall s.data.toList most).1.length ((fall s.data.toList most).1.map iv) ∧ Below w.heap.size w w' := by
  generalize hG : fall s.data.toList most = G
  have hG := hide hG
  have hg := vary_get s w hs
  have hfa := get_facts s.data.toList
  unfold getV at hg
  rw [list_size] at hfa
  generalize hgg : get s.data.toList = g at hg hfa
  obtain ⟨many, at0, ge⟩ := g
  simp only at hg hfa
  have hg := hide hg
  by_cases he : ge = 0
  · subst he
    have h0 := hfa.2.1 rfl
    have h1 := hfa.1
    clear hfa
    by_cases hmo : most < (many : Int)
    · have hres : Hid (([], 0, 13) = G) := by rw [← hG.out]; unfold fall; rw [hgg, if_neg (by simp), if_pos hmo]; rfl
      clear hgg
      go_enter Tryz.func185, Tryz.ntmps185
      go_wp2_with (go_at_call 114; refine hg.out.mono ?_; rintro e w1 ⟨rfl, rfl⟩)
      go_ret3
      exact ⟨_, by rw [← hres.out]; rfl, by rw [← hres.out]; exact own_nil_ints _ _, Below.refl _ _⟩
    · have hgo : Hid (fallGo s.data.toList many [] 0 at0 = G) := by rw [← hG.out]; unfold fall; rw [hgg, if_neg (by simp), if_neg hmo]; rfl
      clear hgg
      go_enter Tryz.func185, Tryz.ntmps185
      go_wp2_with (go_at_call 114; refine hg.out.mono ?_; rintro e w1 ⟨rfl, rfl⟩)
      go_loopw [8, 10, 11, 30] (fun y x la i wr => ∃ (k i' last at_ : Nat) (acc : List Int), i' + k = many ∧ i = .int .i64 i' ∧ y = .int .i64 at_ ∧ la = .int .i64 last ∧ last ≤ 9223372036854775807 ∧ at_ ≤ s.size ∧ acc.length ≤ at_ ∧ wr.ownsRow w.heap.size 3 1 x acc.length (acc.map iv) ∧ Hid (fallGo s.data.toList k acc last at_ = G) ∧ Below w.heap.size w wr) (fun _ _ _ i _ => many - (intOf i).toNat)
      case atStart => exact ⟨many, 0, 0, at0, [], by omega, rfl, rfl, rfl, by omega, by omega, by simp, own_nil_ints _ _, hgo, Below.refl _ _⟩
      case round =>
        clear hgo hg hG
        obtain ⟨k, i', last, at_, acc, hik, rfl, rfl, rfl, hla, hat_, hac, how, hgo, hbel⟩ := hrel
        have hz := hbel.size
        cases k with
        | zero =>
          obtain rfl : i' = many := by omega
          have hres : Hid ((acc, (at_ : Int), 0) = G) := by rw [← hgo.out]; rfl
          go_wp2_with fail
          go_ret3
          exact ⟨_, by rw [← hres.out]; rfl, by rw [← hres.out]; exact how, hbel⟩
        | succ k =>
          have hg := vary_get (s.extract at_ s.size) wr (Nat.le_trans (drop_size s at_) hs)
          have hfa := get_facts (s.data.toList.drop at_)
          unfold getV at hg
          rw [extract_drop] at hg
          rw [List.length_drop, list_size] at hfa
          generalize hgg : get (s.data.toList.drop at_) = g at hg hfa
          obtain ⟨n, sz, e⟩ := g
          simp only at hg hfa
          have hg := hide hg
          by_cases he : e = 0
          · subst he
            have h2 := hfa.2.1 rfl
            have h3 := hfa.1
            clear hfa
            by_cases hn0 : n = 0
            · have hres : Hid (([], 0, 10) = G) := by rw [← hgo.out, fallGo_form hgg (.inl hn0)]; rfl
              subst hn0
              clear hgg
              go_wp2_with (go_at_call 114; refine hg.out.mono ?_; rintro e w1 ⟨rfl, rfl⟩)
              go_ret3
              exact ⟨_, by rw [← hres.out]; rfl, by rw [← hres.out]; exact own_nil_ints _ _, hbel⟩
            · by_cases hnl : 9223372036854775807 - last < n
              · have hres : Hid (([], 0, 10) = G) := by rw [← hgo.out, fallGo_form hgg (.inr hnl)]; rfl
                clear hgg
                have hz0 : ((n : Int) == 0) = false := by simpa using hn0
                have hz1 : 9223372036854775807 - (last : Int) < (n : Int) := by omega
                go_wp2_with (go_at_call 114; refine hg.out.mono ?_; rintro e w1 ⟨rfl, rfl⟩)
                go_ret3
                exact ⟨_, by rw [← hres.out]; rfl, by rw [← hres.out]; exact own_nil_ints _ _, hbel⟩
              · have hgo2 : Hid (fallGo s.data.toList k (acc ++ [((last + n : Nat) : Int)]) (last + n) (at_ + sz) = G) := by rw [← hgo.out, fallGo_on hgg (by omega)]; rfl
                clear hgg
                have hz0 : ((n : Int) == 0) = false := by simpa using hn0
                have hz1 : (n : Int) ≤ 9223372036854775807 - (last : Int) := by omega
                go_wp2_with (first
                  | (go_at_call 114; refine hg.out.mono ?_; rintro e w1 ⟨rfl, rfl⟩)
                  | (at_builtin; refine wpList_app1 elInt rfl (.tmp 61) (.tmp 63) rfl w.heap.size _ _ _ [.int .i64 ((last : Int) + (n : Int))] 3 rfl how rfl rfl (one1 rfl) (by omega) (by omega) ?_; intro v1 w1 how1 hb1 hgr1 hat1))
                have how2 : w1.ownsRow w.heap.size 3 1 v1 (acc ++ [((last + n : Nat) : Int)]).length ((acc ++ [((last + n : Nat) : Int)]).map iv) := by simpa [iv] using how1
                have hbel2 := hbel.trans hb1
                clear how1 hb1 hgr1 hat1 how hbel hz hgo
                go_wp2_with fail
                go_roundw
                case rel => exact ⟨k, i' + 1, last + n, at_ + sz, acc ++ [((last + n : Nat) : Int)], by omega, by go_num, by go_num, by go_num, by omega, by omega, by simp; omega, how2, hgo2, hbel2⟩
                case measure => simp [intOf]; omega
          · have hres : Hid (([], 0, (e : Int)) = G) := by rw [← hgo.out, fallGo_err hgg he]; rfl
            clear hgg hfa
            go_wp2_with (go_at_call 114; refine hg.out.mono ?_; rintro e w1 ⟨rfl, rfl⟩)
            go_ret3
            exact ⟨_, by rw [← hres.out]; rfl, by rw [← hres.out]; exact own_nil_ints _ _, hbel⟩
  · have hres : Hid (([], 0, (ge : Int)) = G) := by rw [← hG.out]; unfold fall; rw [hgg, if_pos he]; rfl
    clear hgg hfa
    go_enter Tryz.func185, Tryz.ntmps185
    go_wp2_with (go_at_call 114; refine hg.out.mono ?_; rintro e w1 ⟨rfl, rfl⟩)
    go_ret3
    exact ⟨_, by rw [← hres.out]; rfl, by rw [← hres.out]; exact own_nil_ints _ _, Below.refl _ _⟩

end Go.Proofs.YteebghoijaaakaaGreat
/- The walks of layer 22, on: Rises, the reference's, and alive. By the prover of this repo. -/
namespace Go.Proofs.YteebghoijaaakaaGreat
open Go.RowKit
open VaryM

/-- The number before the k-th, 0 before the first; how far each rises; the bytes of the first k. -/
def lastF (f : Nat → Int) : Nat → Int | 0 => 0 | k + 1 => f k
def gapF (f : Nat → Int) (k : Nat) : Int := f k - lastF f k
def risT (f : Nat → Int) (n k : Nat) : ByteArray := ⟨(enc n ++ encs (gapF f) k).toArray⟩
/-- The bytes of numbers that rise, or that they don't. -/
def risF (f : Nat → Int) (n : Nat) : ByteArray × Int := if ∀ i, i < n → lastF f i < f i then (risT f n n, 0) else (⟨#[]⟩, 10)

theorem risF_no {f : Nat → Int} {n k : Nat} (hk : k < n) (h : f k ≤ lastF f k) : risF f n = (⟨#[]⟩, 10) := by
  unfold risF; exact if_neg fun h2 => by have := h2 k hk; omega
theorem risF_all {f : Nat → Int} {n : Nat} (h : ∀ i, i < n → lastF f i < f i) : risF f n = (risT f n n, 0) := if_pos h
theorem ris_succ {f : Nat → Int} {k : Nat} (h : ∀ i, i < k → lastF f i < f i) (h2 : lastF f k < f k) : ∀ i, i < k + 1 → lastF f i < f i := fun i hi => by
  by_cases e : i = k
  · subst e; exact h2
  · exact h i (by omega)
theorem gaps_len {f : Nat → Int} {k : Nat} (h : (encs (gapF f) k).length ≤ 9 * k) (h0 : 0 ≤ lastF f k) (h1 : f k ≤ 9223372036854775807) : (encs (gapF f) (k + 1)).length ≤ 9 * (k + 1) := by
  have := enc_len9 (n := (gapF f k).toNat) (by unfold gapF; omega)
  simp only [encs, List.length_append]
  omega

set_option maxRecDepth 100000 in
set_option maxHeartbeats 400000 in
theorem vary_rises (a : Option Addr) (n c : Nat) (f : Nat → Int) (w : World) (hr : Rd w a n 1 (fun i => .int .i64 (f i))) (hn : n ≤ 100000) (hf : ∀ i, i < n → f i ≤ 9223372036854775807) :
    Calls Tryz.prog 31 #[.slice a n c] w fun e w' => e = .returned (.tuple #[.string (risF f n).1, .int .i64 (risF f n).2]) ∧ Below w.heap.size w w' := by
  have hl9 := enc_len9 (n := n) (by omega)
  go_enter Tryz.func31, Tryz.ntmps31
  go_wp2_with fail
  refine (vary_one _ [] n w.heap.size _ (own_nil _ _ _ _) (Nat.le_refl _) (by simp) (by omega) (by omega)).mono ?_
  rintro e w1 ⟨v1, rfl, how1, hb1⟩
  go_wp2_with fail
  go_loopw [4, 5, 13] (fun b l i wr => ∃ k : Nat, k ≤ n ∧ i = .int .i64 k ∧ l = .int .i64 (lastF f k) ∧ 0 ≤ lastF f k ∧ wr.ownsRow w.heap.size 5 1 b (enc n ++ encs (gapF f) k).length ((enc n ++ encs (gapF f) k).map bv) ∧ Hid (∀ i, i < k → lastF f i < f i) ∧ (encs (gapF f) k).length ≤ 9 * k ∧ Below w.heap.size w wr)
    (fun _ _ i _ => n - (intOf i).toNat)
  case atStart => exact ⟨0, by omega, rfl, rfl, Int.le_refl 0, by simpa [encs] using how1, fun i hi => absurd hi (by omega), by simp [encs], hb1⟩
  case round =>
    clear how1 hb1
    obtain ⟨k, hk, rfl, rfl, hl0, how, hpos, hl, hbel⟩ := hrel
    have hz := hbel.size
    by_cases hlt : k < n
    · obtain ⟨b, off, rfl, hb, hc⟩ := (hr.kept hbel) (by omega)
      have hck := hc k (by omega)
      have hfk := hf k hlt
      clear hc
      have hgl := hide (gaps_len hl hl0 hfk)
      by_cases hneg : f k ≤ lastF f k
      · have hres := hide (risF_no hlt hneg)
        go_wp2_with fail
        go_ret2
        exact ⟨by rw [hres.out]; rfl, hbel⟩
      · go_wp2_with fail
        refine (vary_one _ (enc n ++ encs (gapF f) k) (f k - lastF f k) w.heap.size _ how hz (by simp only [List.length_append]; omega) (by omega) (by omega)).mono ?_
        rintro e w2 ⟨v2, rfl, how2, hb2⟩
        have hbel2 := hbel.trans hb2
        have how3 : w2.ownsRow w.heap.size 5 1 v2 (enc n ++ encs (gapF f) (k + 1)).length ((enc n ++ encs (gapF f) (k + 1)).map bv) := by
          rw [List.append_assoc] at how2
          exact how2
        clear how hb2 hbel hz how2
        go_wp2_with fail
        go_roundw
        case rel => exact ⟨k + 1, by omega, by go_num, rfl, by show 0 ≤ f k; omega, how3, ris_succ hpos.out (by omega), hgl.out, hbel2⟩
        case measure => simp [intOf]; omega
    · obtain rfl : k = n := by omega
      have hres := hide (risF_all hpos.out)
      have hcv := own_text (P := Tryz.prog) 71 9 Tryz.underlying71 Tryz.underlying5 Tryz.underlying9 how
      go_wp2_with fail
      go_ret2
      exact ⟨by rw [hres.out]; rfl, hbel⟩

theorem risT_one (f : Nat → Int) (n k : Nat) : risT f n k ++ encStr (f k - lastF f k) = risT f n (k + 1) := str_ext (by simp [risT, encStr, encs, gapF])
theorem risT_zero (f : Nat → Int) (n : Nat) : encStr (n : Int) = risT f n 0 := str_ext (by simp [risT, encStr, encs])
theorem risT_size (f : Nat → Int) (n k : Nat) : (risT f n k).size = (enc n).length + (encs (gapF f) k).length := by
  show (enc n ++ encs (gapF f) k).length = _
  rw [List.length_append]

end Go.Proofs.YteebghoijaaakaaGreat
/- The walks of layer 22, on: alive, and the law VaryPuts. By the prover of this repo. -/
namespace Go.Proofs.YteebghoijaaakaaGreat
open Go.RowKit
open VaryM

theorem enc1 {n : Nat} (h : n < 128) : enc n = [UInt8.ofNat n] := enc_lt h
theorem put_300 : putF (fun i => ([300] : List Int).getD i 0) 1 = (⟨#[172, 2]⟩, 0) := by
  rw [putF_all (by intro i hi; obtain rfl : i = 0 := by omega
                   decide)]
  unfold encsStr
  rw [show encs (fun i => ([300] : List Int).getD i 0) 1 = enc 300 from rfl, enc_ge (by omega), enc_lt (by omega)]
  rfl
theorem ris_311 : risF (fun i => ([3, 10, 11] : List Int).getD i 0) 3 = (⟨#[3, 3, 7, 1]⟩, 0) := by
  rw [risF_all (by intro i hi; rcases (show i = 0 ∨ i = 1 ∨ i = 2 by omega) with rfl | rfl | rfl <;> decide)]
  unfold risT
  rw [show encs (gapF (fun i => ([3, 10, 11] : List Int).getD i 0)) 3 = ((([] ++ enc 3) ++ enc 7) ++ enc 1) from rfl, enc1 (by omega), enc1 (by omega), enc1 (by omega)]
  rfl

end Go.Proofs.YteebghoijaaakaaGreat
/- A number's decimal digits: sheet.Digits and the reference's. By the prover of this repo. -/
namespace Go.Proofs.YteebghoijaaakaaGreat
open Go.RowKit

def dg (n : Nat) : UInt8 := UInt8.ofNat (48 + n % 10)
theorem dg_val (n : Nat) : (dg n).toNat = 48 + n % 10 := by
  unfold dg
  rw [UInt8.toNat_ofNat']
  have := Nat.mod_lt n (show 0 < 10 by omega)
  omega
/-- The digits, the greatest first. -/
def digF (n : Nat) : List UInt8 := if n < 10 then [dg n] else digF (n / 10) ++ [dg n]
termination_by n
decreasing_by omega
theorem digF_small {n : Nat} (h : n < 10) : digF n = [dg n] := by rw [digF, if_pos h]
theorem digF_more {n : Nat} (h : ¬ n < 10) : digF n = digF (n / 10) ++ [dg n] := by rw [digF, if_neg h]
theorem digF_ne (n : Nat) : digF n ≠ [] := by
  by_cases h : n < 10
  · rw [digF_small h]; simp
  · rw [digF_more h]; simp
/-- A number as a text. -/
def digS (n : Int) : ByteArray := if n < 0 then ⟨#[]⟩ else ⟨(digF n.toNat).toArray⟩

/-- The array's cells: so many are done. -/
theorem byte_cell {w : World} {H at_ : Nat} {cs : Array Value} {l : List UInt8} (hB : Blk w H 137 cs) (_hs : cs.size = 19) (_hl : l.length + at_ = 19) (hc : cs.toList.drop at_ = l.map bv) :
    (convert 71 9 (.slice (some ⟨H, at_, none⟩) l.length (19 - at_))).run Tryz.prog w = .ok (.string ⟨l.toArray⟩) w := by
  refine run_convert_bytes_back w _ _ 5 ⟨H, at_, none⟩ _ l Tryz.underlying71 Tryz.underlying5 Tryz.underlying9 fun j hj => ?_
  have hadd : (⟨H, at_, none⟩ : Addr).add j = ⟨H, at_ + j, none⟩ := by unfold Addr.add; split <;> simp_all
  rw [hadd, hB.cell, ← Array.getElem?_toList]
  have := congrArg (fun z => z[j]?) hc
  simp only [List.getElem?_drop, List.getElem?_map, List.getElem?_eq_getElem hj, Option.map_some] at this
  exact this
theorem pow10 (j n : Nat) (h : n < 10 ^ (j + 1)) : n / 10 < 10 ^ j := by
  rw [Nat.pow_succ] at h
  exact Nat.div_lt_of_lt_mul (by omega)

theorem slice19 (H j : Nat) (hj : j ≤ 18) (V : World) : (Instr.sliceAt 137 (.pointer (some ⟨H, 0, none⟩)) (some (.int .i64 (j : Int))) none none).run Tryz.prog V = .ok (.slice (some ⟨H, j, none⟩) (19 - j) (19 - j)) V := by
  have ha : Tryz.prog.arrayLen 137 = 19 := by kernel_rfl
  have he : Tryz.prog.elem 137 = 5 := by kernel_rfl
  have ht : Tryz.prog.underlying 137 = some (.array (Tryz.prog.arrayLen 137) (Tryz.prog.elem 137)) := by kernel_rfl
  rw [run_sliceAt_array_l V 137 ⟨H, 0, none⟩ ht .i64 (j : Int) (by omega) (by rw [ha]; omega), he, Tryz.sizeOf5 V]
  have hadd : (⟨H, 0, none⟩ : Addr).add j = ⟨H, j, none⟩ := by unfold Addr.add; split <;> simp_all
  simp only [Result.andThen_ok, slicedAt, ha, Int.toNat_natCast, Nat.mul_one]
  rw [if_neg (by omega), hadd]
/-- Between two rounds: where the next digit goes, what is left. -/
def DRel (N H : Nat) (w : World) (n at_ : Value) (wr : World) : Prop :=
  ∃ (j m : Nat) (cs : Array Value) (suf : List UInt8), n = .int .i64 m ∧ at_ = .int .i64 ((j : Int) + 1) ∧ j ≤ 18 ∧ Hid (m < 10 ^ (j + 1)) ∧ m ≤ 9223372036854775807 ∧ Blk wr H 137 cs ∧ cs.size = 19 ∧ suf.length + (j + 1) = 19 ∧ cs.toList.drop (j + 1) = suf.map bv ∧
    Hid (digF m ++ suf = digF N) ∧ Below H w wr

set_option maxRecDepth 100000 in
set_option maxHeartbeats 1000000 in
theorem sheet_digits (n : Int) (w : World) (h1 : n ≤ 9223372036854775807) : Calls Tryz.prog 47 #[.int .i64 n] w fun e w' => e = .returned (.string (digS n)) ∧ Below w.heap.size w w' := by
  unfold digS
  by_cases h0 : n < 0
  · rw [if_pos h0]
    go_enter Tryz.func47, Tryz.ntmps47
    go_wp2_with fail
    go_ret
    exact ⟨rfl, Below.refl _ _⟩
  · rw [if_neg h0]
    obtain ⟨N, rfl⟩ := Int.eq_ofNat_of_zero_le (show 0 ≤ n by omega)
    rw [Int.toNat_natCast]
    have hb0 := hide (balloc0 w (.cells (Array.replicate 19 (Value.int .u8 0)) 137))
    have hB0 : Hid (Blk (w.alloc (.cells (Array.replicate 19 (Value.int .u8 0)) 137)) w.heap.size 137 (Array.replicate 19 (Value.int .u8 0))) := Blk.made _ _ _
    have hp : N < 10 ^ (19 - 0) := by show N < 10000000000000000000; omega
    replace hp := hide hp
    go_enter Tryz.func47, Tryz.ntmps47
    go_wp2_with fail
    go_loopw [0, 4] (fun n at_ wr => DRel N w.heap.size w n at_ wr) (fun _ at_ _ => (intOf at_).toNat)
    case atStart => exact ⟨18, N, _, [], rfl, rfl, Nat.le_refl _, hp.out, by omega, hB0.out, by simp, rfl, by simp, by show _ = _; rw [List.append_nil], hb0.out⟩
    case round =>
      clear hb0 hB0 hp h0 h1
      obtain ⟨j, m, cs, suf, rfl, rfl, hj, hm, hm2, hB, hs, hsl, hdr, hgo, hbel⟩ := hrel
      have hp2 := hide (pow10 j m hm.out)
      have f0 : wr.frozen? ⟨w.heap.size, j, none⟩ = false := hB.free j
      have hlt : j < cs.size := by omega
      have hc0 : wr.cell? ⟨w.heap.size, j, none⟩ = some cs[j] := by rw [hB.cell]; simp
      have hB2 := hB.set j (.int .u8 (48 + (m : Int) % 10))
      have hdr2 : (cs.setIfInBounds j (.int .u8 (48 + (m : Int) % 10))).toList.drop j = (dg m :: suf).map bv := by
        rw [Array.toList_setIfInBounds, List.drop_eq_getElem_cons (by simp; omega), List.map_cons]
        congr 1
        · simp [bv, dg_val]
        · rw [List.drop_set_of_lt (by omega)]; exact hdr
      have hlen := hB.lt
      have hbel2 := hide (hbel.setCell (p := ⟨w.heap.size, j, none⟩) (Nat.le_refl _) (.int .u8 (48 + (m : Int) % 10)))
      have hmi : Hid ((m : Int) / 10 = ((m / 10 : Nat) : Int)) := by show _ = _; omega
      have hsl2 := fun V => slice19 w.heap.size j hj V
      have hsn : 19 - j = (dg m :: suf).length := by simp; omega
      rw [hsn] at hsl2
      replace hsn := hide hsn
      replace hdr2 := hide hdr2
      by_cases h10 : m < 10
      · have hres : Hid (digF N = dg m :: suf) := by show _ = _; rw [← hgo.out, digF_small h10]; rfl
        have hcvt := byte_cell hB2 (by simp [hs]) (l := dg m :: suf) (at_ := j) (by simp; omega) hdr2.out
        rw [hsn.out] at hcvt
        generalize (dg m :: suf).length = q at hsl2 hcvt
        go_wp2_with fail
        go_ret
        exact ⟨by rw [hres.out]; rfl, hbel2.out⟩
      · obtain ⟨i, rfl⟩ : ∃ i, j = i + 1 := by
          refine ⟨j - 1, ?_⟩
          have := hp2.out
          have hj0 : j ≠ 0 := fun h => by subst h; simp at this; omega
          omega
        have hgo2 : Hid (digF (m / 10) ++ (dg m :: suf) = digF N) := by show _ = _; rw [← hgo.out, digF_more h10, List.append_assoc]; rfl
        have hne : ((m : Int) / 10 == 0) = false := by simp; omega
        have hB3 := hide hB2
        clear hB2 hsl2
        go_wp2_with fail
        go_roundw
        case rel => exact ⟨i, m / 10, _, dg m :: suf, by rw [← hmi.out], by simp, by omega, hp2, by omega, hB3.out, by simp [hs], by simp; omega, hdr2.out, hgo2, hbel2.out⟩
        case measure => simp [intOf]; omega

theorem dg_text (V : World) (m : Nat) : (convert 71 9 (.slice (some ⟨V.heap.size, 0, none⟩) 1 1)).run Tryz.prog (V.alloc (.cells #[.int .u8 (48 + (m : Int) % 10)] 5)) = .ok (.string ⟨#[dg m]⟩) (V.alloc (.cells #[.int .u8 (48 + (m : Int) % 10)] 5)) := by
  have hB := Blk.made V 5 #[.int .u8 (48 + (m : Int) % 10)]
  refine run_convert_bytes_back _ _ _ 5 ⟨V.heap.size, 0, none⟩ 1 [dg m] Tryz.underlying71 Tryz.underlying5 Tryz.underlying9 fun j hj => ?_
  obtain rfl : j = 0 := by simpa using hj
  have hadd : (⟨V.heap.size, 0, none⟩ : Addr).add 0 = ⟨V.heap.size, 0, none⟩ := by simp [Addr.add]
  rw [hadd, hB.cell]
  simp [dg_val]

end Go.Proofs.YteebghoijaaakaaGreat
/- A text's rows: between its commas. Plain facts. By the prover of this repo. -/
namespace Go.Proofs.YteebghoijaaakaaGreat

/-- A text's rows: what stands so far, and the rest. -/
def splitC : List UInt8 → List UInt8 → List (List UInt8)
  | acc, [] => [acc]
  | acc, c :: r => if c = 44 then acc :: splitC [] r else splitC (acc ++ [c]) r
def rowsC (s : ByteArray) : List ByteArray := (splitC [] s.data.toList).map fun l => ⟨l.toArray⟩
theorem splitC_nil (acc : List UInt8) : splitC acc [] = [acc] := by simp [splitC]
theorem splitC_comma (acc r : List UInt8) : splitC acc (44 :: r) = acc :: splitC [] r := by simp [splitC]
theorem splitC_on (acc : List UInt8) {c : UInt8} (h : c ≠ 44) (r : List UInt8) : splitC acc (c :: r) = splitC (acc ++ [c]) r := by simp [splitC, h]
theorem splitC_pos : ∀ (r acc : List UInt8), 1 ≤ (splitC acc r).length ∧ (splitC acc r).length ≤ r.length + 1
  | [], acc => by rw [splitC_nil]; simp
  | c :: r, acc => by
    by_cases h : c = 44
    · subst h
      rw [splitC_comma]
      have := splitC_pos r []
      simp only [List.length_cons]; omega
    · rw [splitC_on acc h]
      have := splitC_pos r (acc ++ [c])
      simp only [List.length_cons]; omega
theorem splitC_plain : ∀ (r acc : List UInt8), (∀ c ∈ r, c ≠ 44) → splitC acc r = [acc ++ r]
  | [], acc, _ => by rw [splitC_nil, List.append_nil]
  | c :: r, acc, h => by
    rw [splitC_on acc (h c (by simp)), splitC_plain r _ (fun x hx => h x (by simp [hx]))]
    simp
theorem splitC_app : ∀ (a acc r : List UInt8), (∀ c ∈ a, c ≠ 44) → splitC acc (a ++ 44 :: r) = (acc ++ a) :: splitC [] r
  | [], acc, r, _ => by rw [List.nil_append, splitC_comma, List.append_nil]
  | c :: a, acc, r, h => by
    rw [List.cons_append, splitC_on acc (h c (by simp)), splitC_app a _ r (fun x hx => h x (by simp [hx]))]
    simp
theorem mk_strC (s : ByteArray) : (⟨s.data.toList.toArray⟩ : ByteArray) = s := by
  apply str_ext
  simp
theorem no_byte {l : List UInt8} {c : UInt8} (h : Lib.indexByte l c = -1) : ∀ x ∈ l, x ≠ c := fun x hx e => by
  obtain ⟨k, hk, e2⟩ := List.getElem_of_mem hx
  exact Lib.indexByte_none h k (by rw [List.getElem?_eq_getElem hk, e2, e])
theorem at_byte {l : List UInt8} {c : UInt8} {i : Nat} (h : Lib.indexByte l c = i) : i < l.length ∧ l = l.take i ++ c :: l.drop (i + 1) ∧ ∀ x ∈ l.take i, x ≠ c := by
  obtain ⟨h1, h2⟩ := Lib.indexByte_some h
  have hil : i < l.length := (List.getElem?_eq_some_iff.1 h1).1
  have e : l[i] = c := (List.getElem?_eq_some_iff.1 h1).2
  refine ⟨hil, ?_, fun x hx e => ?_⟩
  · rw [← e, ← List.drop_eq_getElem_cons hil, List.take_append_drop]
  · obtain ⟨k, hk, e2⟩ := List.getElem_of_mem hx
    rw [List.length_take] at hk
    rw [List.getElem_take] at e2
    exact h2 k (by omega) (by rw [List.getElem?_eq_getElem (by omega), e2, e])
theorem byte_cases (l : List UInt8) (c : UInt8) : Lib.indexByte l c = -1 ∨ ∃ i : Nat, Lib.indexByte l c = i := by
  have := Lib.indexByte_ge l c
  by_cases h : Lib.indexByte l c = -1
  · exact .inl h
  · exact .inr ⟨(Lib.indexByte l c).toNat, by omega⟩
theorem rowsC_none {s : ByteArray} (h : Lib.indexByte s.data.toList 44 = -1) : rowsC s = [s] := by
  unfold rowsC
  rw [splitC_plain _ _ (no_byte h)]
  simp only [List.nil_append, List.map_cons, List.map_nil, mk_strC]
theorem rowsC_some {s : ByteArray} {i : Nat} (h : Lib.indexByte s.data.toList 44 = i) : i + 1 ≤ s.size ∧ rowsC s = s.extract 0 i :: rowsC (s.extract (i + 1) s.size) := by
  obtain ⟨hil, hsp, hno⟩ := at_byte h
  have hil2 : i < s.size := by simpa using hil
  refine ⟨hil2, ?_⟩
  unfold rowsC
  have e : splitC [] s.data.toList = s.data.toList.take i :: splitC [] (s.data.toList.drop (i + 1)) := by
    have := splitC_app (s.data.toList.take i) [] (s.data.toList.drop (i + 1)) hno
    rw [← hsp, List.nil_append] at this
    exact this
  rw [e, extract_drop s (i + 1), List.map_cons]
  congr 1
  apply str_ext
  simp
theorem rowsC_pos (s : ByteArray) : 1 ≤ (rowsC s).length ∧ (rowsC s).length ≤ s.size + 1 := by
  unfold rowsC
  rw [List.length_map]
  have := splitC_pos s.data.toList []
  rw [show s.data.toList.length = s.size by simp] at this
  exact this
end Go.Proofs.YteebghoijaaakaaGreat
/- A range over a function whose iterator keeps its state in a cell of its own (strings.SplitSeq): the caller's law. By the prover of this repo. -/
namespace Go.Proofs.YteebghoijaaakaaGreat
open Go.RowKit

variable {F : Fence} {n : Nat} {P : Program}

/-- What an iterator with a cell block Bs of its own may turn. -/
def MayTurn (B Bs : Nat) (W : World) (row : Option Nat) : Prop :=
  ∀ r, row = some r → r = Bs ∨ (B ≤ r ∧ ∃ o : Obj, W.heap[r]? = some o ∧ o.isWalk = true)
/-- What holds through an iterator's steps. -/
def AbC {β : Type} (B Bs : Nat) (J : β → World → Prop) : Prop := ∀ s W W' row, J s W → W.grownBy W' row → MayTurn B Bs W row → J s W'
/-- What holds through an iterator's steps and the loop's own. -/
def OwC {β : Type} (B Bs : Nat) (I : β → World → Prop) : Prop :=
  ∀ s W W' row, I s W → W.grownBy W' row → (∀ r, row = some r → r = Bs ∨ (B ≤ r ∧ ∃ o : Obj, W.heap[r]? = some o ∧ o.isCells = false)) → I s W'
theorem OwC.put {β : Type} {B Bs : Nat} {I : β → World → Prop} (h : OwC B Bs I) {s : β} {W : World} {l : Nat} {o : Obj} (o' : Obj) (hs : I s W) (hB : B ≤ l) (hl : W.heap[l]? = some o) (ho : o.isCells = false) : I s (W.putObj l o') :=
  h s W _ (some l) hs (grownBy_putObj' W l o') (fun r e => by cases e; exact .inr ⟨hB, o, hl, ho⟩)
theorem OwC.alloc {β : Type} {B Bs : Nat} {I : β → World → Prop} (h : OwC B Bs I) {s : β} {W : World} (o : Obj) (hs : I s W) : I s (W.alloc o) :=
  h s W _ none hs (World.grownBy_alloc W o none) (fun r e => by cases e)
/-- The contract of such an iterator. -/
def SeqC {α : Type} (F : Fence) (n : Nat) (P : Program) (g : Nat) (lb : Array Value) (encs : α → Array Value) (Kp : World → World → Prop) (S Sp : List α → Prop) (N Bs : Nat) (w : World) : Prop :=
  ∀ (l : Nat) (J Jx : List α → World → Prop) (W : World), Below w.heap.size w W → AbC W.heap.size Bs J → AbC W.heap.size Bs Jx →
    (∀ pre x W1, J pre W1 → pre.length < N → YieldAt F (n - 1) P l (encs x) W1 fun e W' =>
      (e = .returned (.bool true) ∧ J (pre ++ [x]) W' ∧ Kp W1 W') ∨ (e = .returned (.bool false) ∧ Jx (pre ++ [x]) W')) →
    J [] W →
    CallsIn F n P g (#[.func (.yield l) #[] #[]] ++ lb) W fun e W' => (∃ v, e = .returned v) ∧ ((∃ xs, S xs ∧ J xs W') ∨ (∃ pre, Sp pre ∧ Jx pre W'))

theorem range_cell {α : Type} {g : Operand} {ps : Array Tmp} {assign body : Code} {Q : Exit → Act → World → Prop} {a : Act} {w : World}
    (hro : F.round = none) (h1 : 1 ≤ n) {gf : Nat} {lb : Array Value} (hg : a.eval g = .func (.func gf) #[] lb) (hFg : F.fn gf) (eg : ∀ args w, (callFunc gf args).run P w = .ok (.enter gf args) w)
    {encs : α → Array Value} {Kp : World → World → Prop} {S Sp : List α → Prop} {N Bs : Nat} (hBs : Bs < w.heap.size) (hseq : SeqC F (n - 1) P gf lb encs Kp S Sp N Bs w)
    (hKt : ∀ {A B C : World}, Kp A B → Kp B C → Kp A C) (hKb : ∀ (W : World) (l : Nat) (o o' : Obj), w.heap.size ≤ l → W.heap[l]? = some o → o.isCells = false → o.isWalk = false → Kp W (W.putObj l o')) (hps : ∀ x, (encs x).size = ps.size)
    (I : List α → World → Prop) (Ix : Code → List α → World → Prop) (hI : OwC w.heap.size Bs I) (hIx : ∀ c, OwC w.heap.size Bs (Ix c)) (h0 : I [] w) (a₁ : α → Act)
    (hassign : ∀ (l : Nat) (x : α) (W : World) (K : Act → World → Prop), K (a₁ x) W →
      assign.wpIn (F.inRound l) (n - 1 - 1) P (Exit.then K (fun _ _ _ => False)) { tmps := (ps.zip (encs x)).foldl (fun t (p, v) => t.setIfInBounds p v) a.tmps, defers := [] } W)
    (hbody : ∀ (l : Nat) (pre : List α) (x : α) (W : World), I pre W → pre.length < N → body.wpIn (F.inRound l) (n - 1 - 1) P (ownPostG w.heap.size Kp I Ix (pre ++ [x]) W) (a₁ x) W)
    (hdone : ∀ (D : Nat) (xs : List α) (W : World), w.heap.size ≤ D → S xs → I xs W → W.heap[D]? = some (.deferred (some [])) → Q .normal { a with defers := { target := .collected D, args := #[] } :: a.defers } W)
    (hstop : ∀ (D : Nat) (c : Code) (pre : List α) (W : World), w.heap.size ≤ D → Sp pre → Ix c pre W → W.heap[D]? = some (.deferred (some [])) → c.wpIn F n P Q { a with defers := { target := .collected D, args := #[] } :: a.defers } W) :
    (Code.rangeFunc g ps assign body).wpIn F n P Q a w := by
  refine wpIn_rangeFunc fun fn hfn => ?_
  rw [hro]
  -- the loop's record, by its state
  let R : LoopState → Option Code → Loop := fun st pe => { state := st, pending := pe, fn, tmps := a.tmps, params := ps, assign, body, defers := w.heap.size }
  have hRd : ∀ st pe, R st pe = { state := st, pending := pe, fn, tmps := a.tmps, params := ps, assign, body, defers := w.heap.size } := fun _ _ => rfl
  generalize R = R at hRd
  obtain ⟨V, hV⟩ : ∃ V, (w.alloc (.deferred (some []))).alloc (.loop (R .ready none)) = V := ⟨_, rfl⟩
  have hVz : V.heap.size = w.heap.size + 2 := by rw [← hV]; simp
  have hVl : V.heap[w.heap.size + 1]? = some (.loop (R .ready none)) := by
    rw [← hV]
    have := World.alloc_heap_new (w.alloc (.deferred (some []))) (.loop (R .ready none))
    rwa [World.size_alloc] at this
  have hVd : V.heap[w.heap.size]? = some (.deferred (some [])) := by
    rw [← hV]
    exact (Below.heap_alloc _ _ _ (by simp)).trans (World.alloc_heap_new w _)
  have hVI : I [] V := by rw [← hV]; exact hI.alloc _ (hI.alloc _ h0)
  have hVb : Below w.heap.size w V := by rw [← hV]; exact ((Below.refl _ w).alloc (Nat.le_refl _) _).alloc (by simp) _
  -- what the two blocks hold lies on through the iterator's steps
  have two : ∀ {X Y : World} {row : Option Nat} {k : Nat} {o : Obj}, X.grownBy Y row → MayTurn V.heap.size Bs X row → w.heap.size ≤ k → k < V.heap.size → X.heap[k]? = some o → Y.heap[k]? = some o := fun {X Y row k o} hgr hm hk1 hk2 hx => by
    refine (hgr.block k (Array.getElem?_eq_some_iff.1 hx).1 fun e => ?_).trans hx
    rcases hm k e.symm with h | ⟨h, _⟩
    · omega
    · omega
  have own : ∀ {X : World} {row : Option Nat}, MayTurn V.heap.size Bs X row → ∀ r, row = some r → r = Bs ∨ (w.heap.size ≤ r ∧ ∃ o : Obj, X.heap[r]? = some o ∧ o.isCells = false) := fun hm r e => by
    rcases hm r e with h | ⟨h, o, ho, hw⟩
    · exact .inl h
    · exact .inr ⟨by omega, o, ho, Obj.not_cells_of_walk hw⟩
  refine ⟨w.heap.size + 1, [{ target := .collected w.heap.size, args := #[] }], V, { target := .fn (.func gf) lb, args := #[.func (.yield (w.heap.size + 1)) #[] #[]] }, V, gf,
    #[.func (.yield (w.heap.size + 1)) #[] #[]] ++ lb, V, ?_, ?_, ?_, ?_, fun _ => h1, ?_⟩
  · rw [← hV, hRd]; exact run_enterLoop_outer _ _ _ _ _
  · simp only [resolve, hg]
    simp [go_sem]
  · intro f' hf'; simp [Target.leads] at hf'; subst hf'; exact hFg
  · simp [invoke, go_sem, eg]
  · refine (hseq (w.heap.size + 1) (fun pre W => I pre W ∧ W.heap[w.heap.size + 1]? = some (.loop (R .ready none)) ∧ W.heap[w.heap.size]? = some (.deferred (some [])))
      (fun pre W => ∃ c, Ix c pre W ∧ W.heap[w.heap.size + 1]? = some (.loop (R .done (some c))) ∧ W.heap[w.heap.size]? = some (.deferred (some []))) V hVb
      (fun s X Y row hs hgr hm => ⟨hI s X Y row hs.1 hgr (own hm), two hgr hm (by omega) (by omega) hs.2.1, two hgr hm (Nat.le_refl _) (by omega) hs.2.2⟩)
      (fun s X Y row hs hgr hm => by
        obtain ⟨c, hc, hl, hd⟩ := hs
        exact ⟨c, hIx c s X Y row hc hgr (own hm), two hgr hm (by omega) (by omega) hl, two hgr hm (Nat.le_refl _) (by omega) hd⟩)
      ?_ ⟨hVI, hVl, hVd⟩).mono ?_
    · rintro pre x W ⟨hi, hl, hd⟩ hlen
      have hlt := (Array.getElem?_eq_some_iff.1 hl).1
      have hy := run_yield (P := P) (args := encs x) hl (by rw [hRd]; exact hps x)
      rw [hRd] at hy
      refine ⟨fn, _, assign, body, hy, roundIn_of_wpIn hfn (hassign _ x W _ ⟨_, run_beginRound hl (by rw [hRd]), ?_⟩)⟩
      have hl2 : (W.putObj (w.heap.size + 1) (.loop { R .ready none with state := .busy })).heap[w.heap.size + 1]? = some (.loop { R .ready none with state := .busy }) := World.putObj_heap_same hlt
      have hd2 : (W.putObj (w.heap.size + 1) (.loop { R .ready none with state := .busy })).heap[w.heap.size]? = some (.deferred (some [])) := (World.putObj_heap_other (by omega)).trans hd
      have hk2 : Kp W (W.putObj (w.heap.size + 1) (.loop { R .ready none with state := .busy })) := hKb _ _ _ _ (by omega) hl rfl rfl
      refine wpIn_mono (hbody _ pre x _ (hI.put _ hi (by omega) hl rfl) hlen) ?_
      have fin : ∀ (jump : Option Code) (Z : World), KeepsFrom w.heap.size (W.putObj (w.heap.size + 1) (.loop { R .ready none with state := .busy })) Z →
          (Instr.endRound (w.heap.size + 1) jump).run P Z = .ok (.bool jump.isNone) (Z.putObj (w.heap.size + 1) (.loop (R (if jump.isNone then .ready else .done) jump))) ∧
          Z.heap[w.heap.size + 1]? = some (.loop { R .ready none with state := .busy }) ∧
          (Z.putObj (w.heap.size + 1) (.loop (R (if jump.isNone then .ready else .done) jump))).heap[w.heap.size + 1]? = some (.loop (R (if jump.isNone then .ready else .done) jump)) ∧
          (Z.putObj (w.heap.size + 1) (.loop (R (if jump.isNone then .ready else .done) jump))).heap[w.heap.size]? = some (.deferred (some [])) := fun jump Z hz => by
        have hl3 := hz.same _ _ (by omega) hl2 rfl
        have hrun := run_endRound (P := P) jump hl3
        rw [hRd] at hrun hl3 ⊢
        rw [hRd]
        exact ⟨hrun, hl3, World.putObj_heap_same (Array.getElem?_eq_some_iff.1 hl3).1, (World.putObj_heap_other (by omega)).trans (hz.same _ _ (Nat.le_refl _) hd2 rfl)⟩
      rintro e a3 Z hp
      cases e with
      | normal =>
        obtain ⟨q1, q2, q3⟩ := hp
        obtain ⟨f1, f2, f3, f4⟩ := fin none Z q1
        exact ⟨_, _, f1, .inl ⟨rfl, ⟨hI.put _ q3 (by omega) f2 rfl, f3, f4⟩, hKt (hKt hk2 q2) (hKb _ _ _ _ (by omega) f2 rfl rfl)⟩⟩
      | ret =>
        obtain ⟨q1, q3⟩ := hp
        obtain ⟨f1, f2, f3, f4⟩ := fin (some .ret) Z q1
        exact ⟨_, _, f1, .inr ⟨rfl, .ret, (hIx _).put _ q3 (by omega) f2 rfl, f3, f4⟩⟩
      | exit id =>
        obtain ⟨q1, q3⟩ := hp
        obtain ⟨f1, f2, f3, f4⟩ := fin (some (.exit id)) Z q1
        exact ⟨_, _, f1, .inr ⟨rfl, .exit id, (hIx _).put _ q3 (by omega) f2 rfl, f3, f4⟩⟩
      | goto t =>
        obtain ⟨q1, q3⟩ := hp
        obtain ⟨f1, f2, f3, f4⟩ := fin (some (.goto t)) Z q1
        exact ⟨_, _, f1, .inr ⟨rfl, .goto t, (hIx _).put _ q3 (by omega) f2 rfl, f3, f4⟩⟩
      | panic ch => exact hp.elim
      | outgrown => exact hp.elim
    · rintro e Z ⟨⟨v, rfl⟩, (⟨xs, hS, hi, hl, hd⟩ | ⟨pre, hSp, c, hi, hl, hd⟩)⟩
      · exact ⟨none, _, by have := run_endLoop (P := P) hl (by rw [hRd]; simp); rw [hRd] at this; exact this, hdone _ xs _ (Nat.le_refl _) hS (hI.put _ hi (by omega) hl rfl) ((World.putObj_heap_other (by omega)).trans hd)⟩
      · exact ⟨some c, _, by have := run_endLoop (P := P) hl (by rw [hRd]; simp); rw [hRd] at this; exact this, hstop _ c pre _ (Nat.le_refl _) hSp ((hIx c).put _ hi (by omega) hl rfl) ((World.putObj_heap_other (by omega)).trans hd)⟩
end Go.Proofs.YteebghoijaaakaaGreat
/- A range over a function whose iterator keeps its state in a cell of its own, and whose next element is known: the caller's law. By the prover of this repo. -/
namespace Go.Proofs.YteebghoijaaakaaGreat
open Go.RowKit

variable {F : Fence} {n : Nat} {P : Program}

/-- The contract of such an iterator. -/
def SeqQ {α : Type} (F : Fence) (n : Nat) (P : Program) (g : Nat) (lb : Array Value) (encs : α → Array Value) (Kp : World → World → Prop) (S Sp : List α → Prop) (Q : List α → α → Prop) (Bs : Nat) (w : World) : Prop :=
  ∀ (l : Nat) (J Jx : List α → World → Prop) (W : World), Below w.heap.size w W → AbC W.heap.size Bs J → AbC W.heap.size Bs Jx →
    (∀ pre x W1, J pre W1 → Q pre x → YieldAt F (n - 1) P l (encs x) W1 fun e W' =>
      (e = .returned (.bool true) ∧ J (pre ++ [x]) W' ∧ Kp W1 W') ∨ (e = .returned (.bool false) ∧ Jx (pre ++ [x]) W')) →
    J [] W →
    CallsIn F n P g (#[.func (.yield l) #[] #[]] ++ lb) W fun e W' => (∃ v, e = .returned v) ∧ ((∃ xs, S xs ∧ J xs W') ∨ (∃ pre, Sp pre ∧ Jx pre W'))

theorem range_cellq {α : Type} {g : Operand} {ps : Array Tmp} {assign body : Code} {Q : Exit → Act → World → Prop} {a : Act} {w : World}
    (hro : F.round = none) (h1 : 1 ≤ n) {gf : Nat} {lb : Array Value} (hg : a.eval g = .func (.func gf) #[] lb) (hFg : F.fn gf) (eg : ∀ args w, (callFunc gf args).run P w = .ok (.enter gf args) w)
    {encs : α → Array Value} {Kp : World → World → Prop} {S Sp : List α → Prop} {Nx : List α → α → Prop} {Bs : Nat} (hBs : Bs < w.heap.size) (hseq : SeqQ F (n - 1) P gf lb encs Kp S Sp Nx Bs w)
    (hKt : ∀ {A B C : World}, Kp A B → Kp B C → Kp A C) (hKb : ∀ (W : World) (l : Nat) (o o' : Obj), w.heap.size ≤ l → W.heap[l]? = some o → o.isCells = false → o.isWalk = false → Kp W (W.putObj l o')) (hps : ∀ x, (encs x).size = ps.size)
    (I : List α → World → Prop) (Ix : Code → List α → World → Prop) (hI : OwC w.heap.size Bs I) (hIx : ∀ c, OwC w.heap.size Bs (Ix c)) (h0 : I [] w) (a₁ : α → Act)
    (hassign : ∀ (l : Nat) (x : α) (W : World) (K : Act → World → Prop), K (a₁ x) W →
      assign.wpIn (F.inRound l) (n - 1 - 1) P (Exit.then K (fun _ _ _ => False)) { tmps := (ps.zip (encs x)).foldl (fun t (p, v) => t.setIfInBounds p v) a.tmps, defers := [] } W)
    (hbody : ∀ (l : Nat) (pre : List α) (x : α) (W : World), I pre W → Nx pre x → body.wpIn (F.inRound l) (n - 1 - 1) P (ownPostG w.heap.size Kp I Ix (pre ++ [x]) W) (a₁ x) W)
    (hdone : ∀ (D : Nat) (xs : List α) (W : World), w.heap.size ≤ D → S xs → I xs W → W.heap[D]? = some (.deferred (some [])) → Q .normal { a with defers := { target := .collected D, args := #[] } :: a.defers } W)
    (hstop : ∀ (D : Nat) (c : Code) (pre : List α) (W : World), w.heap.size ≤ D → Sp pre → Ix c pre W → W.heap[D]? = some (.deferred (some [])) → c.wpIn F n P Q { a with defers := { target := .collected D, args := #[] } :: a.defers } W) :
    (Code.rangeFunc g ps assign body).wpIn F n P Q a w := by
  refine wpIn_rangeFunc fun fn hfn => ?_
  rw [hro]
  -- the loop's record, by its state
  let R : LoopState → Option Code → Loop := fun st pe => { state := st, pending := pe, fn, tmps := a.tmps, params := ps, assign, body, defers := w.heap.size }
  have hRd : ∀ st pe, R st pe = { state := st, pending := pe, fn, tmps := a.tmps, params := ps, assign, body, defers := w.heap.size } := fun _ _ => rfl
  generalize R = R at hRd
  obtain ⟨V, hV⟩ : ∃ V, (w.alloc (.deferred (some []))).alloc (.loop (R .ready none)) = V := ⟨_, rfl⟩
  have hVz : V.heap.size = w.heap.size + 2 := by rw [← hV]; simp
  have hVl : V.heap[w.heap.size + 1]? = some (.loop (R .ready none)) := by
    rw [← hV]
    have := World.alloc_heap_new (w.alloc (.deferred (some []))) (.loop (R .ready none))
    rwa [World.size_alloc] at this
  have hVd : V.heap[w.heap.size]? = some (.deferred (some [])) := by
    rw [← hV]
    exact (Below.heap_alloc _ _ _ (by simp)).trans (World.alloc_heap_new w _)
  have hVI : I [] V := by rw [← hV]; exact hI.alloc _ (hI.alloc _ h0)
  have hVb : Below w.heap.size w V := by rw [← hV]; exact ((Below.refl _ w).alloc (Nat.le_refl _) _).alloc (by simp) _
  -- what the two blocks hold lies on through the iterator's steps
  have two : ∀ {X Y : World} {row : Option Nat} {k : Nat} {o : Obj}, X.grownBy Y row → MayTurn V.heap.size Bs X row → w.heap.size ≤ k → k < V.heap.size → X.heap[k]? = some o → Y.heap[k]? = some o := fun {X Y row k o} hgr hm hk1 hk2 hx => by
    refine (hgr.block k (Array.getElem?_eq_some_iff.1 hx).1 fun e => ?_).trans hx
    rcases hm k e.symm with h | ⟨h, _⟩
    · omega
    · omega
  have own : ∀ {X : World} {row : Option Nat}, MayTurn V.heap.size Bs X row → ∀ r, row = some r → r = Bs ∨ (w.heap.size ≤ r ∧ ∃ o : Obj, X.heap[r]? = some o ∧ o.isCells = false) := fun hm r e => by
    rcases hm r e with h | ⟨h, o, ho, hw⟩
    · exact .inl h
    · exact .inr ⟨by omega, o, ho, Obj.not_cells_of_walk hw⟩
  refine ⟨w.heap.size + 1, [{ target := .collected w.heap.size, args := #[] }], V, { target := .fn (.func gf) lb, args := #[.func (.yield (w.heap.size + 1)) #[] #[]] }, V, gf,
    #[.func (.yield (w.heap.size + 1)) #[] #[]] ++ lb, V, ?_, ?_, ?_, ?_, fun _ => h1, ?_⟩
  · rw [← hV, hRd]; exact run_enterLoop_outer _ _ _ _ _
  · simp only [resolve, hg]
    simp [go_sem]
  · intro f' hf'; simp [Target.leads] at hf'; subst hf'; exact hFg
  · simp [invoke, go_sem, eg]
  · refine (hseq (w.heap.size + 1) (fun pre W => I pre W ∧ W.heap[w.heap.size + 1]? = some (.loop (R .ready none)) ∧ W.heap[w.heap.size]? = some (.deferred (some [])))
      (fun pre W => ∃ c, Ix c pre W ∧ W.heap[w.heap.size + 1]? = some (.loop (R .done (some c))) ∧ W.heap[w.heap.size]? = some (.deferred (some []))) V hVb
      (fun s X Y row hs hgr hm => ⟨hI s X Y row hs.1 hgr (own hm), two hgr hm (by omega) (by omega) hs.2.1, two hgr hm (Nat.le_refl _) (by omega) hs.2.2⟩)
      (fun s X Y row hs hgr hm => by
        obtain ⟨c, hc, hl, hd⟩ := hs
        exact ⟨c, hIx c s X Y row hc hgr (own hm), two hgr hm (by omega) (by omega) hl, two hgr hm (Nat.le_refl _) (by omega) hd⟩)
      ?_ ⟨hVI, hVl, hVd⟩).mono ?_
    · rintro pre x W ⟨hi, hl, hd⟩ hlen
      have hlt := (Array.getElem?_eq_some_iff.1 hl).1
      have hy := run_yield (P := P) (args := encs x) hl (by rw [hRd]; exact hps x)
      rw [hRd] at hy
      refine ⟨fn, _, assign, body, hy, roundIn_of_wpIn hfn (hassign _ x W _ ⟨_, run_beginRound hl (by rw [hRd]), ?_⟩)⟩
      have hl2 : (W.putObj (w.heap.size + 1) (.loop { R .ready none with state := .busy })).heap[w.heap.size + 1]? = some (.loop { R .ready none with state := .busy }) := World.putObj_heap_same hlt
      have hd2 : (W.putObj (w.heap.size + 1) (.loop { R .ready none with state := .busy })).heap[w.heap.size]? = some (.deferred (some [])) := (World.putObj_heap_other (by omega)).trans hd
      have hk2 : Kp W (W.putObj (w.heap.size + 1) (.loop { R .ready none with state := .busy })) := hKb _ _ _ _ (by omega) hl rfl rfl
      refine wpIn_mono (hbody _ pre x _ (hI.put _ hi (by omega) hl rfl) hlen) ?_
      have fin : ∀ (jump : Option Code) (Z : World), KeepsFrom w.heap.size (W.putObj (w.heap.size + 1) (.loop { R .ready none with state := .busy })) Z →
          (Instr.endRound (w.heap.size + 1) jump).run P Z = .ok (.bool jump.isNone) (Z.putObj (w.heap.size + 1) (.loop (R (if jump.isNone then .ready else .done) jump))) ∧
          Z.heap[w.heap.size + 1]? = some (.loop { R .ready none with state := .busy }) ∧
          (Z.putObj (w.heap.size + 1) (.loop (R (if jump.isNone then .ready else .done) jump))).heap[w.heap.size + 1]? = some (.loop (R (if jump.isNone then .ready else .done) jump)) ∧
          (Z.putObj (w.heap.size + 1) (.loop (R (if jump.isNone then .ready else .done) jump))).heap[w.heap.size]? = some (.deferred (some [])) := fun jump Z hz => by
        have hl3 := hz.same _ _ (by omega) hl2 rfl
        have hrun := run_endRound (P := P) jump hl3
        rw [hRd] at hrun hl3 ⊢
        rw [hRd]
        exact ⟨hrun, hl3, World.putObj_heap_same (Array.getElem?_eq_some_iff.1 hl3).1, (World.putObj_heap_other (by omega)).trans (hz.same _ _ (Nat.le_refl _) hd2 rfl)⟩
      rintro e a3 Z hp
      cases e with
      | normal =>
        obtain ⟨q1, q2, q3⟩ := hp
        obtain ⟨f1, f2, f3, f4⟩ := fin none Z q1
        exact ⟨_, _, f1, .inl ⟨rfl, ⟨hI.put _ q3 (by omega) f2 rfl, f3, f4⟩, hKt (hKt hk2 q2) (hKb _ _ _ _ (by omega) f2 rfl rfl)⟩⟩
      | ret =>
        obtain ⟨q1, q3⟩ := hp
        obtain ⟨f1, f2, f3, f4⟩ := fin (some .ret) Z q1
        exact ⟨_, _, f1, .inr ⟨rfl, .ret, (hIx _).put _ q3 (by omega) f2 rfl, f3, f4⟩⟩
      | exit id =>
        obtain ⟨q1, q3⟩ := hp
        obtain ⟨f1, f2, f3, f4⟩ := fin (some (.exit id)) Z q1
        exact ⟨_, _, f1, .inr ⟨rfl, .exit id, (hIx _).put _ q3 (by omega) f2 rfl, f3, f4⟩⟩
      | goto t =>
        obtain ⟨q1, q3⟩ := hp
        obtain ⟨f1, f2, f3, f4⟩ := fin (some (.goto t)) Z q1
        exact ⟨_, _, f1, .inr ⟨rfl, .goto t, (hIx _).put _ q3 (by omega) f2 rfl, f3, f4⟩⟩
      | panic ch => exact hp.elim
      | outgrown => exact hp.elim
    · rintro e Z ⟨⟨v, rfl⟩, (⟨xs, hS, hi, hl, hd⟩ | ⟨pre, hSp, c, hi, hl, hd⟩)⟩
      · exact ⟨none, _, by have := run_endLoop (P := P) hl (by rw [hRd]; simp); rw [hRd] at this; exact this, hdone _ xs _ (Nat.le_refl _) hS (hI.put _ hi (by omega) hl rfl) ((World.putObj_heap_other (by omega)).trans hd)⟩
      · exact ⟨some c, _, by have := run_endLoop (P := P) hl (by rw [hRd]; simp); rw [hRd] at this; exact this, hstop _ c pre _ (Nat.le_refl _) hSp ((hIx c).put _ hi (by omega) hl rfl) ((World.putObj_heap_other (by omega)).trans hd)⟩
end Go.Proofs.YteebghoijaaakaaGreat
