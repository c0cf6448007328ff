/- The walks of layer 22, on: Falls and the reference's. By the prover of this repo. -/
import Derived.Test.YtclndbaafibaiaaVaryA
import Derived.Test.YtclndbaafibaiaaVaryN
namespace Go.Proofs.Ytclndbaafibaiaa
open Go.RowKit
open VaryM

theorem drop_size (s : ByteArray) (k : Nat) : (s.extract k s.size).size ≤ s.size := by simp

set_option maxRecDepth 100000 in
set_option maxHeartbeats 800000 in
theorem vary_falls (s : ByteArray) (most : Int) (w : World) (hs : s.size ≤ 100000) (hm0 : -9223372036854775808 ≤ most) (hm1 : most ≤ 9223372036854775807) :
    Calls Try.prog 39 #[.string s, .int .i64 most] w fun e w' => ∃ v, e = .returned (.tuple #[v, .int .i64 (fall s.data.toList most).2.1, .int .i64 (fall s.data.toList most).2.2]) ∧ w'.ownsRow w.heap.size 3 1 v (fall s.data.toList most).1.length ((fall s.data.toList most).1.map iv) ∧ Below w.heap.size w w' := by
  generalize hG : fall s.data.toList most = G
  have hG := hide hG
  have hg := vary_get s w hs
  have hfa := get_facts s.data.toList
  unfold getV at hg
  rw [list_size] at hfa
  generalize hgg : get s.data.toList = g at hg hfa
  obtain ⟨many, at0, ge⟩ := g
  simp only at hg hfa
  have hg := hide hg
  by_cases he : ge = 0
  · subst he
    have h0 := hfa.2.1 rfl
    have h1 := hfa.1
    clear hfa
    by_cases hmo : most < (many : Int)
    · have hres : Hid (([], 0, 13) = G) := by rw [← hG.out]; unfold fall; rw [hgg, if_neg (by simp), if_pos hmo]; rfl
      clear hgg
      go_enter Try.func39, Try.ntmps39
      go_wp2_with (go_at_call 32; refine hg.out.mono ?_; rintro e w1 ⟨rfl, rfl⟩)
      go_ret3
      exact ⟨_, by rw [← hres.out]; rfl, by rw [← hres.out]; exact own_nil_ints _ _, Below.refl _ _⟩
    · have hgo : Hid (fallGo s.data.toList many [] 0 at0 = G) := by rw [← hG.out]; unfold fall; rw [hgg, if_neg (by simp), if_neg hmo]; rfl
      clear hgg
      go_enter Try.func39, Try.ntmps39
      go_wp2_with (go_at_call 32; refine hg.out.mono ?_; rintro e w1 ⟨rfl, rfl⟩)
      go_loopw [8, 10, 11, 30] (fun y x la i wr => ∃ (k i' last at_ : Nat) (acc : List Int), i' + k = many ∧ i = .int .i64 i' ∧ y = .int .i64 at_ ∧ la = .int .i64 last ∧ last ≤ 9223372036854775807 ∧ at_ ≤ s.size ∧ acc.length ≤ at_ ∧ wr.ownsRow w.heap.size 3 1 x acc.length (acc.map iv) ∧ Hid (fallGo s.data.toList k acc last at_ = G) ∧ Below w.heap.size w wr) (fun _ _ _ i _ => many - (intOf i).toNat)
      case atStart => exact ⟨many, 0, 0, at0, [], by omega, rfl, rfl, rfl, by omega, by omega, by simp, own_nil_ints _ _, hgo, Below.refl _ _⟩
      case round =>
        clear hgo hg hG
        obtain ⟨k, i', last, at_, acc, hik, rfl, rfl, rfl, hla, hat_, hac, how, hgo, hbel⟩ := hrel
        have hz := hbel.size
        cases k with
        | zero =>
          obtain rfl : i' = many := by omega
          have hres : Hid ((acc, (at_ : Int), 0) = G) := by rw [← hgo.out]; rfl
          go_wp2_with fail
          go_ret3
          exact ⟨_, by rw [← hres.out]; rfl, by rw [← hres.out]; exact how, hbel⟩
        | succ k =>
          have hg := vary_get (s.extract at_ s.size) wr (Nat.le_trans (drop_size s at_) hs)
          have hfa := get_facts (s.data.toList.drop at_)
          unfold getV at hg
          rw [extract_drop] at hg
          rw [List.length_drop, list_size] at hfa
          generalize hgg : get (s.data.toList.drop at_) = g at hg hfa
          obtain ⟨n, sz, e⟩ := g
          simp only at hg hfa
          have hg := hide hg
          by_cases he : e = 0
          · subst he
            have h2 := hfa.2.1 rfl
            have h3 := hfa.1
            clear hfa
            by_cases hn0 : n = 0
            · have hres : Hid (([], 0, 10) = G) := by rw [← hgo.out, fallGo_form hgg (.inl hn0)]; rfl
              subst hn0
              clear hgg
              go_wp2_with (go_at_call 32; refine hg.out.mono ?_; rintro e w1 ⟨rfl, rfl⟩)
              go_ret3
              exact ⟨_, by rw [← hres.out]; rfl, by rw [← hres.out]; exact own_nil_ints _ _, hbel⟩
            · by_cases hnl : 9223372036854775807 - last < n
              · have hres : Hid (([], 0, 10) = G) := by rw [← hgo.out, fallGo_form hgg (.inr hnl)]; rfl
                clear hgg
                have hz0 : ((n : Int) == 0) = false := by simpa using hn0
                have hz1 : 9223372036854775807 - (last : Int) < (n : Int) := by omega
                go_wp2_with (go_at_call 32; refine hg.out.mono ?_; rintro e w1 ⟨rfl, rfl⟩)
                go_ret3
                exact ⟨_, by rw [← hres.out]; rfl, by rw [← hres.out]; exact own_nil_ints _ _, hbel⟩
              · have hgo2 : Hid (fallGo s.data.toList k (acc ++ [((last + n : Nat) : Int)]) (last + n) (at_ + sz) = G) := by rw [← hgo.out, fallGo_on hgg (by omega)]; rfl
                clear hgg
                have hz0 : ((n : Int) == 0) = false := by simpa using hn0
                have hz1 : (n : Int) ≤ 9223372036854775807 - (last : Int) := by omega
                go_wp2_with (first
                  | (go_at_call 32; refine hg.out.mono ?_; rintro e w1 ⟨rfl, rfl⟩)
                  | (at_builtin; refine wpList_app1 elInt rfl (.tmp 61) (.tmp 63) rfl w.heap.size _ _ _ [.int .i64 ((last : Int) + (n : Int))] 3 rfl how rfl rfl (one1 rfl) (by omega) (by omega) ?_; intro v1 w1 how1 hb1 hgr1 hat1))
                have how2 : w1.ownsRow w.heap.size 3 1 v1 (acc ++ [((last + n : Nat) : Int)]).length ((acc ++ [((last + n : Nat) : Int)]).map iv) := by simpa [iv] using how1
                have hbel2 := hbel.trans hb1
                clear how1 hb1 hgr1 hat1 how hbel hz hgo
                go_wp2_with fail
                go_roundw
                case rel => exact ⟨k, i' + 1, last + n, at_ + sz, acc ++ [((last + n : Nat) : Int)], by omega, by go_num, by go_num, by go_num, by omega, by omega, by simp; omega, how2, hgo2, hbel2⟩
                case measure => simp [intOf]; omega
          · have hres : Hid (([], 0, (e : Int)) = G) := by rw [← hgo.out, fallGo_err hgg he]; rfl
            clear hgg hfa
            go_wp2_with (go_at_call 32; refine hg.out.mono ?_; rintro e w1 ⟨rfl, rfl⟩)
            go_ret3
            exact ⟨_, by rw [← hres.out]; rfl, by rw [← hres.out]; exact own_nil_ints _ _, hbel⟩
  · have hres : Hid (([], 0, (ge : Int)) = G) := by rw [← hG.out]; unfold fall; rw [hgg, if_pos he]; rfl
    clear hgg hfa
    go_enter Try.func39, Try.ntmps39
    go_wp2_with (go_at_call 32; refine hg.out.mono ?_; rintro e w1 ⟨rfl, rfl⟩)
    go_ret3
    exact ⟨_, by rw [← hres.out]; rfl, by rw [← hres.out]; exact own_nil_ints _ _, Below.refl _ _⟩

set_option maxRecDepth 100000 in
set_option maxHeartbeats 800000 in
theorem ref22_falls (s : ByteArray) (most : Int) (w : World) (hs : s.size ≤ 100000) (hm0 : -9223372036854775808 ≤ most) (hm1 : most ≤ 9223372036854775807) :
    Calls Try.prog 40 #[.string s, .int .i64 most] w fun e w' => ∃ v, e = .returned (.tuple #[v, .int .i64 (fall s.data.toList most).2.1, .int .i64 (fall s.data.toList most).2.2]) ∧ w'.ownsRow w.heap.size 3 1 v (fall s.data.toList most).1.length ((fall s.data.toList most).1.map iv) ∧ Below w.heap.size w w' := by
  generalize hG : fall s.data.toList most = G
  have hG := hide hG
  have hg := ref22_get s w hs
  have hfa := get_facts s.data.toList
  unfold getV at hg
  rw [list_size] at hfa
  generalize hgg : get s.data.toList = g at hg hfa
  obtain ⟨many, at0, ge⟩ := g
  simp only at hg hfa
  have hg := hide hg
  by_cases he : ge = 0
  · subst he
    have h0 := hfa.2.1 rfl
    have h1 := hfa.1
    clear hfa
    by_cases hmo : most < (many : Int)
    · have hres : Hid (([], 0, 13) = G) := by rw [← hG.out]; unfold fall; rw [hgg, if_neg (by simp), if_pos hmo]; rfl
      clear hgg
      go_enter Try.func40, Try.ntmps40
      go_wp2_with (go_at_call 33; refine hg.out.mono ?_; rintro e w1 ⟨rfl, rfl⟩)
      go_ret3
      exact ⟨_, by rw [← hres.out]; rfl, by rw [← hres.out]; exact own_nil_ints _ _, Below.refl _ _⟩
    · have hgo : Hid (fallGo s.data.toList many [] 0 at0 = G) := by rw [← hG.out]; unfold fall; rw [hgg, if_neg (by simp), if_neg hmo]; rfl
      clear hgg
      go_enter Try.func40, Try.ntmps40
      go_wp2_with (go_at_call 33; refine hg.out.mono ?_; rintro e w1 ⟨rfl, rfl⟩)
      go_loopw [8, 10, 11, 12] (fun y x la i wr => ∃ (k i' last at_ : Nat) (acc : List Int), i' + k = many ∧ i = .int .i64 i' ∧ y = .int .i64 at_ ∧ la = .int .i64 last ∧ last ≤ 9223372036854775807 ∧ at_ ≤ s.size ∧ acc.length ≤ at_ ∧ wr.ownsRow w.heap.size 3 1 x acc.length (acc.map iv) ∧ Hid (fallGo s.data.toList k acc last at_ = G) ∧ Below w.heap.size w wr) (fun _ _ _ i _ => many - (intOf i).toNat)
      case atStart => exact ⟨many, 0, 0, at0, [], by omega, rfl, rfl, rfl, by omega, by omega, by simp, own_nil_ints _ _, hgo, Below.refl _ _⟩
      case round =>
        clear hgo hg hG
        obtain ⟨k, i', last, at_, acc, hik, rfl, rfl, rfl, hla, hat_, hac, how, hgo, hbel⟩ := hrel
        have hz := hbel.size
        cases k with
        | zero =>
          obtain rfl : i' = many := by omega
          have hres : Hid ((acc, (at_ : Int), 0) = G) := by rw [← hgo.out]; rfl
          go_wp2_with fail
          go_ret3
          exact ⟨_, by rw [← hres.out]; rfl, by rw [← hres.out]; exact how, hbel⟩
        | succ k =>
          have hg := ref22_get (s.extract at_ s.size) wr (Nat.le_trans (drop_size s at_) hs)
          have hfa := get_facts (s.data.toList.drop at_)
          unfold getV at hg
          rw [extract_drop] at hg
          rw [List.length_drop, list_size] at hfa
          generalize hgg : get (s.data.toList.drop at_) = g at hg hfa
          obtain ⟨n, sz, e⟩ := g
          simp only at hg hfa
          have hg := hide hg
          by_cases he : e = 0
          · subst he
            have h2 := hfa.2.1 rfl
            have h3 := hfa.1
            clear hfa
            by_cases hn0 : n = 0
            · have hres : Hid (([], 0, 10) = G) := by rw [← hgo.out, fallGo_form hgg (.inl hn0)]; rfl
              subst hn0
              clear hgg
              go_wp2_with (go_at_call 33; refine hg.out.mono ?_; rintro e w1 ⟨rfl, rfl⟩)
              go_ret3
              exact ⟨_, by rw [← hres.out]; rfl, by rw [← hres.out]; exact own_nil_ints _ _, hbel⟩
            · by_cases hnl : 9223372036854775807 - last < n
              · have hres : Hid (([], 0, 10) = G) := by rw [← hgo.out, fallGo_form hgg (.inr hnl)]; rfl
                clear hgg
                have hz0 : ((n : Int) == 0) = false := by simpa using hn0
                have hz1 : 9223372036854775807 - (last : Int) < (n : Int) := by omega
                go_wp2_with (go_at_call 33; refine hg.out.mono ?_; rintro e w1 ⟨rfl, rfl⟩)
                go_ret3
                exact ⟨_, by rw [← hres.out]; rfl, by rw [← hres.out]; exact own_nil_ints _ _, hbel⟩
              · have hgo2 : Hid (fallGo s.data.toList k (acc ++ [((last + n : Nat) : Int)]) (last + n) (at_ + sz) = G) := by rw [← hgo.out, fallGo_on hgg (by omega)]; rfl
                clear hgg
                have hz0 : ((n : Int) == 0) = false := by simpa using hn0
                have hz1 : (n : Int) ≤ 9223372036854775807 - (last : Int) := by omega
                go_wp2_with (first
                  | (go_at_call 33; refine hg.out.mono ?_; rintro e w1 ⟨rfl, rfl⟩)
                  | (at_builtin; refine wpList_app1 elInt rfl (.tmp 55) (.tmp 57) rfl w.heap.size _ _ _ [.int .i64 ((last : Int) + (n : Int))] 3 rfl how rfl rfl (one1 rfl) (by omega) (by omega) ?_; intro v1 w1 how1 hb1 hgr1 hat1))
                have how2 : w1.ownsRow w.heap.size 3 1 v1 (acc ++ [((last + n : Nat) : Int)]).length ((acc ++ [((last + n : Nat) : Int)]).map iv) := by simpa [iv] using how1
                have hbel2 := hbel.trans hb1
                clear how1 hb1 hgr1 hat1 how hbel hz hgo
                go_wp2_with fail
                go_roundw
                case rel => exact ⟨k, i' + 1, last + n, at_ + sz, acc ++ [((last + n : Nat) : Int)], by omega, by go_num, by go_num, by go_num, by omega, by omega, by simp; omega, how2, hgo2, hbel2⟩
                case measure => simp [intOf]; omega
          · have hres : Hid (([], 0, (e : Int)) = G) := by rw [← hgo.out, fallGo_err hgg he]; rfl
            clear hgg hfa
            go_wp2_with (go_at_call 33; refine hg.out.mono ?_; rintro e w1 ⟨rfl, rfl⟩)
            go_ret3
            exact ⟨_, by rw [← hres.out]; rfl, by rw [← hres.out]; exact own_nil_ints _ _, hbel⟩
  · have hres : Hid (([], 0, (ge : Int)) = G) := by rw [← hG.out]; unfold fall; rw [hgg, if_pos he]; rfl
    clear hgg hfa
    go_enter Try.func40, Try.ntmps40
    go_wp2_with (go_at_call 33; refine hg.out.mono ?_; rintro e w1 ⟨rfl, rfl⟩)
    go_ret3
    exact ⟨_, by rw [← hres.out]; rfl, by rw [← hres.out]; exact own_nil_ints _ _, Below.refl _ _⟩
end Go.Proofs.Ytclndbaafibaiaa
