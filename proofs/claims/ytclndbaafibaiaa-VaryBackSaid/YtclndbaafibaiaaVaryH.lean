/- The law VaryRises, walked. By the prover of this repo. -/
import Derived.Test.YtclndbaafibaiaaVaryF
import Derived.Test.YtclndbaafibaiaaVaryK
import Derived.Test.YtclndbaafibaiaaVaryL
namespace Go.Proofs.Ytclndbaafibaiaa
open Go.RowKit
open VaryM

theorem fallGo_len (l : List UInt8) : ∀ (k : Nat) (acc : List Int) (last at_ : Nat), acc.length ≤ at_ → at_ ≤ l.length → (fallGo l k acc last at_).1.length ≤ l.length
  | 0, acc, _, at_, h1, h2 => by simp only [fallGo]; omega
  | k + 1, acc, last, at_, h1, h2 => by
    simp only [fallGo]
    split
    · simp
    · split
      · simp
      · rename_i h3 h4
        have hf := (get_facts (l.drop at_)).2.1 (by simpa using h3)
        simp only [List.length_drop] at hf
        exact fallGo_len l k _ _ _ (by simp; omega) (by omega)
theorem fall_len (l : List UInt8) (most : Int) : (fall l most).1.length ≤ l.length := by
  unfold fall
  split
  · simp
  · split
    · simp
    · rename_i h3 h4
      have hf := (get_facts l).2.1 (by simpa using h3)
      exact fallGo_len l _ _ _ _ (by simp) (by omega)

set_option maxRecDepth 100000 in
set_option maxHeartbeats 400000 in
theorem varyRises_walk (a : Option Addr) (n c : Nat) (z : List Int) (s : ByteArray) (most : Int) (w : World) (_hz : z.length = n) (hnc : n ≤ c) (hc : c ≤ maxLen) (r : Rd w a n 1 (fun i => .int .i64 (z.getD i 0))) (hb : ∀ x ∈ z, (Lit.int .i64 x).wf = true)
    (hs : s.size ≤ maxLen) (hx : -9223372036854775808 ≤ most ∧ most ≤ 9223372036854775807) :
    Calls Try.prog 9 #[.slice a n c, .string s, .int .i64 most] w fun e w' => e = .returned (.bool true) ∧ Below w.heap.size w w' := by
  have hf := hide (fun i (_ : i < n) => (getD_le hb i).2)
  unfold maxLen at hc hs
  by_cases hg : 200 < n
  · go_enter Try.func9, Try.ntmps9
    go_wp2_with fail
    refine (alive22 _).mono ?_
    rintro e w1 ⟨rfl, hb1⟩
    go_wp2_with fail
    go_ret
    exact ⟨rfl, hb1⟩
  by_cases hg2 : 1000 < s.size
  · go_enter Try.func9, Try.ntmps9
    go_wp2_with fail
    refine (alive22 _).mono ?_
    rintro e w1 ⟨rfl, hb1⟩
    go_wp2_with fail
    go_ret
    exact ⟨rfl, hb1⟩
  generalize hF : (fun i => z.getD i 0) = F at hf
  have hFi : ∀ i, z.getD i 0 = F i := fun i => by rw [← hF]
  simp only [hFi] at r hf
  clear hF hFi hb
  have hl := fall_len s.data.toList most
  rw [list_size] at hl
  have hav := fun W => vary_falls s most W (by omega) hx.1 hx.2
  have har := fun W => ref22_falls s most W (by omega) hx.1 hx.2
  generalize fall s.data.toList most = L at hav har hl
  obtain ⟨L, Lat, Le⟩ := L
  simp only at hav har hl
  have hav := hide hav
  have har := hide har
  go_enter Try.func9, Try.ntmps9
  go_wp2_with fail
  refine (vary_rises a n c F _ r (by omega) hf.out).mono ?_
  rintro e w1 ⟨rfl, hb1⟩
  go_wp2_with fail
  refine (ref22_rises a n c F _ (r.kept hb1) (by omega) hf.out).mono ?_
  rintro e w2 ⟨rfl, hb2⟩
  go_wp2_with fail
  refine (hav.out w2).mono ?_
  rintro e w3 ⟨v1, rfl, how1, hb3⟩
  obtain ⟨A1, c1, rfl, _, _, hR1⟩ := own_iv how1
  go_wp2_with fail
  refine (har.out w3).mono ?_
  rintro e w4 ⟨v2, rfl, how2, hb4⟩
  obtain ⟨A2, c2, rfl, _, _, hR2⟩ := own_iv how2
  have hR1 := hR1.kept hb4
  go_wp2_with fail
  refine (same_yes A1 A2 L.length c1 c2 (fun i => L.getD i 0) _ hR1 hR2 (by omega)).mono ?_
  rintro e w5 ⟨rfl, hb5⟩
  go_wp2_with fail
  refine (alive22 _).mono ?_
  rintro e w6 ⟨rfl, hb6⟩
  go_wp2_with fail
  go_ret
  exact ⟨rfl, bthen (bthen (bthen (bthen (bthen hb1 hb2) hb3) hb4) hb5) hb6⟩
end Go.Proofs.Ytclndbaafibaiaa
