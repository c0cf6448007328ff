/- The law VaryGets, walked. By the prover of this repo. -/
import Derived.Test.YtclndbaafibaiaaVaryA
import Derived.Test.YtclndbaafibaiaaVaryS
namespace Go.Proofs.Ytclndbaafibaiaa
open Go.RowKit
open VaryM

theorem allGo_len : ∀ (f : Nat) (acc : List Int) (l : List UInt8), l.length ≤ f → (allGo f acc l).1.length ≤ acc.length + l.length
  | 0, acc, l, _ => by simp [allGo]
  | f + 1, acc, l, h => by
    simp only [allGo]
    split
    · simp
    · split
      · simp
      · rename_i h1 h2
        have hf := (get_facts l).2.1 (by simpa using h2)
        have := allGo_len f (acc ++ [((get l).1 : Int)]) (l.drop (get l).2.1) (by simp; omega)
        simp at this
        omega
theorem all_len (l : List UInt8) : (all l).1.length ≤ l.length := by
  have := allGo_len l.length [] l (Nat.le_refl _)
  simpa [all] using this

/-- An owned slice of numbers, opened. -/
theorem own_iv {w : World} {base : Nat} {v : Value} {l : List Int} (h : w.ownsRow base 3 1 v l.length (l.map iv)) : ∃ A c, v = .slice A l.length c ∧ l.length ≤ c ∧ c ≤ maxLen ∧ Rd w A l.length 1 (fun i => .int .i64 (l.getD i 0)) := by
  obtain ⟨A, c, rfl, _, h1, h2⟩ := own_form h
  refine ⟨A, c, rfl, h1, h2, (own_rd h).congr fun i hi => ?_⟩
  have hi2 : i < l.length := by omega
  simp [hi2, iv]

set_option maxRecDepth 100000 in
set_option maxHeartbeats 400000 in
theorem varyGets_walk (s : ByteArray) (w : World) (hs : s.size ≤ maxLen) :
    Calls Try.prog 8 #[.string s] w fun e w' => e = .returned (.bool true) ∧ Below w.heap.size w w' := by
  unfold maxLen at hs
  by_cases hg : 1000 < s.size
  · go_enter Try.func8, Try.ntmps8
    go_wp2_with fail
    refine (alive22 _).mono ?_
    rintro e w1 ⟨rfl, hb1⟩
    go_wp2_with fail
    go_ret
    exact ⟨rfl, hb1⟩
  have hl := all_len s.data.toList
  rw [list_size] at hl
  have hgv := vary_get s w (by omega)
  have hgr := ref22_get s w (by omega)
  have hav := vary_all s w (by omega)
  have har := fun W => ref22_all s W (by omega)
  unfold getV at hgv hgr
  generalize get s.data.toList = g at hgv hgr
  generalize all s.data.toList = L at hav har hl
  obtain ⟨gn, gs, ge⟩ := g
  obtain ⟨L, Le⟩ := L
  simp only at hgv hgr hav har hl
  have hgv := hide hgv
  have hgr := hide hgr
  have hav := hide hav
  have har := hide har
  go_enter Try.func8, Try.ntmps8
  go_wp2_with fail
  refine hgv.out.mono ?_
  rintro e w1 ⟨rfl, rfl⟩
  go_wp2_with fail
  refine hgr.out.mono ?_
  rintro e w1 ⟨rfl, rfl⟩
  go_wp2_with fail
  refine hav.out.mono ?_
  rintro e w1 ⟨v1, rfl, how1, hb1⟩
  obtain ⟨A1, c1, rfl, _, _, hR1⟩ := own_iv how1
  go_wp2_with fail
  refine (har.out w1).mono ?_
  rintro e w2 ⟨v2, rfl, how2, hb2⟩
  obtain ⟨A2, c2, rfl, _, _, hR2⟩ := own_iv how2
  have hR1 := hR1.kept hb2
  go_wp2_with fail
  refine (same_yes A1 A2 L.length c1 c2 (fun i => L.getD i 0) _ hR1 hR2 (by omega)).mono ?_
  rintro e w3 ⟨rfl, hb3⟩
  go_wp2_with fail
  refine (alive22 _).mono ?_
  rintro e w4 ⟨rfl, hb4⟩
  go_wp2_with fail
  go_ret
  exact ⟨rfl, bthen (bthen (bthen hb1 hb2) hb3) hb4⟩
end Go.Proofs.Ytclndbaafibaiaa
