/- The walks of layer 22, on: All, the reference's, and whether two lists are the same. By the prover of this repo. -/
import Derived.Test.YtclndbaafibaiaaVaryG
import Derived.Test.YtclndbaafibaiaaVaryN
namespace Go.Proofs.Ytclndbaafibaiaa
open Go.RowKit
open VaryM

theorem elInt : Elem Try.prog 43 3 (.int .i64 0) 1 8 := ⟨Try.underlying43, by kernel_rfl, rfl, by omega⟩
/-- A number as a value. -/
def iv (n : Int) : Value := .int .i64 n
theorem own_nil_ints (w : World) (base : Nat) : w.ownsRow base 3 1 (.slice none 0 0) ([] : List Int).length (([] : List Int).map iv) := World.ownsRow_nil _ _ _ _
theorem list_size (s : ByteArray) : s.data.toList.length = s.size := by simp

set_option maxRecDepth 100000 in
set_option maxHeartbeats 400000 in
theorem vary_all (s : ByteArray) (w : World) (hs : s.size ≤ 100000) :
    Calls Try.prog 34 #[.string s] w fun e w' => ∃ v, e = .returned (.tuple #[v, .int .i64 (all s.data.toList).2]) ∧ w'.ownsRow w.heap.size 3 1 v (all s.data.toList).1.length ((all s.data.toList).1.map iv) ∧ Below w.heap.size w w' := by
  generalize hG : all s.data.toList = G
  have hG := hide hG
  go_enter Try.func34, Try.ntmps34
  go_wp2_with fail
  go_loopw [0, 4] (fun y x wr => ∃ (t : ByteArray) (acc : List Int) (f : Nat), y = .string t ∧ t.size ≤ f ∧ f ≤ s.size ∧ acc.length + t.size ≤ s.size ∧ wr.ownsRow w.heap.size 3 1 x acc.length (acc.map iv) ∧ Hid (allGo f acc t.data.toList = G) ∧ Below w.heap.size w wr) (fun y _ _ => strLen y)
  case atStart => exact ⟨s, [], s.size, rfl, Nat.le_refl _, Nat.le_refl _, by simp, own_nil_ints _ _, by have := hG.out; unfold all at this; rw [list_size] at this; exact this, Below.refl _ _⟩
  case round =>
    obtain ⟨t, acc, f, rfl, htf, hfs, hts, how, hgo, hbel⟩ := hrel
    by_cases h0 : t.size = 0
    · have hnil : t.data.toList = [] := nil_of_size t (by omega)
      obtain rfl : t = ⟨#[]⟩ := str_ext hnil
      have hres : Hid ((acc, 0) = G) := by rw [← hgo.out, hnil, allGo_nil]; rfl
      go_wp2_with fail
      go_ret2
      exact ⟨_, by rw [← hres.out]; rfl, by rw [← hres.out]; exact how, hbel⟩
    · have hnl : t.data.toList ≠ [] := fun h => h0 (by rw [← list_size, h]; rfl)
      have hne : t.toList.isEmpty = false := by rw [ByteArray.toList_eq]; simpa using hnl
      have hfa := get_facts t.data.toList
      rw [list_size] at hfa
      by_cases he : (get t.data.toList).2.2 = 0
      · obtain ⟨f', rfl, hf', hon⟩ := allGo_on (acc := acc) hnl (by rw [list_size]; exact htf) he
        have hgo2 : Hid (allGo f' (acc ++ [((get t.data.toList).1 : Int)]) ((t.extract (get t.data.toList).2.1 t.size).data.toList) = G) := by rw [extract_drop, ← hon]; exact hgo
        have hg := vary_get t wr (by omega)
        unfold getV at hg
        have hz := hbel.size
        obtain ⟨h1, h2, h3⟩ := hfa.2.1 he
        have h4 := hfa.1
        clear hfa hon hgo hf'
        generalize get t.data.toList = g at hg he hgo2 h1 h2 h3 h4
        obtain ⟨gn, gs, ge⟩ := g
        simp only at he hg hgo2 h1 h2 h3 h4
        subst he
        have hg2 := hide hg
        clear hg
        go_wp2_with (first
          | (go_at_call 32; refine hg2.out.mono ?_; rintro e w1 ⟨rfl, rfl⟩)
          | (at_builtin; refine wpList_app1 elInt rfl (.tmp 19) (.tmp 21) rfl w.heap.size _ _ _ [.int .i64 (gn : Int)] 3 rfl how rfl rfl (one1 rfl) (by omega) (by omega) ?_; intro v1 w1 how1 hb1 hgr1 hat1))
        have how2 : w1.ownsRow w.heap.size 3 1 v1 (acc ++ [(gn : Int)]).length ((acc ++ [(gn : Int)]).map iv) := by simpa [iv] using how1
        have hbel2 := hbel.trans hb1
        clear how1 hb1 hgr1 hat1 how hbel hz
        go_wp2_with fail
        go_roundw
        case rel =>
          refine ⟨t.extract gs t.size, acc ++ [(gn : Int)], f', rfl, ?_, by omega, ?_, how2, hgo2, hbel2⟩
          · simp; omega
          · simp; omega
        case measure => simp [strLen]; omega
      · have hres : Hid (([], ((get t.data.toList).2.2 : Int)) = G) := by rw [← hgo.out, allGo_bad hnl (by rw [list_size]; exact htf) he]; rfl
        have hg := vary_get t wr (by omega)
        unfold getV at hg
        clear hfa
        generalize get t.data.toList = g at hg he hres
        obtain ⟨gn, gs, ge⟩ := g
        simp only at he hg hres
        have hg2 := hide hg
        clear hg
        go_wp2_with (go_at_call 32; refine hg2.out.mono ?_; rintro e w1 ⟨rfl, rfl⟩)
        go_ret2
        exact ⟨_, by rw [← hres.out]; rfl, by rw [← hres.out]; exact own_nil_ints _ _, hbel⟩

set_option maxRecDepth 100000 in
set_option maxHeartbeats 400000 in
theorem ref22_all (s : ByteArray) (w : World) (hs : s.size ≤ 100000) :
    Calls Try.prog 35 #[.string s] w fun e w' => ∃ v, e = .returned (.tuple #[v, .int .i64 (all s.data.toList).2]) ∧ w'.ownsRow w.heap.size 3 1 v (all s.data.toList).1.length ((all s.data.toList).1.map iv) ∧ Below w.heap.size w w' := by
  generalize hG : all s.data.toList = G
  have hG := hide hG
  go_enter Try.func35, Try.ntmps35
  go_wp2_with fail
  go_loopw [0, 4] (fun y x wr => ∃ (t : ByteArray) (acc : List Int) (f : Nat), y = .string t ∧ t.size ≤ f ∧ f ≤ s.size ∧ acc.length + t.size ≤ s.size ∧ wr.ownsRow w.heap.size 3 1 x acc.length (acc.map iv) ∧ Hid (allGo f acc t.data.toList = G) ∧ Below w.heap.size w wr) (fun y _ _ => strLen y)
  case atStart => exact ⟨s, [], s.size, rfl, Nat.le_refl _, Nat.le_refl _, by simp, own_nil_ints _ _, by have := hG.out; unfold all at this; rw [list_size] at this; exact this, Below.refl _ _⟩
  case round =>
    obtain ⟨t, acc, f, rfl, htf, hfs, hts, how, hgo, hbel⟩ := hrel
    by_cases h0 : t.size = 0
    · have hnil : t.data.toList = [] := nil_of_size t (by omega)
      obtain rfl : t = ⟨#[]⟩ := str_ext hnil
      have hres : Hid ((acc, 0) = G) := by rw [← hgo.out, hnil, allGo_nil]; rfl
      go_wp2_with fail
      go_ret2
      exact ⟨_, by rw [← hres.out]; rfl, by rw [← hres.out]; exact how, hbel⟩
    · have hnl : t.data.toList ≠ [] := fun h => h0 (by rw [← list_size, h]; rfl)
      have hne : t.toList.isEmpty = false := by rw [ByteArray.toList_eq]; simpa using hnl
      have hfa := get_facts t.data.toList
      rw [list_size] at hfa
      by_cases he : (get t.data.toList).2.2 = 0
      · obtain ⟨f', rfl, hf', hon⟩ := allGo_on (acc := acc) hnl (by rw [list_size]; exact htf) he
        have hgo2 : Hid (allGo f' (acc ++ [((get t.data.toList).1 : Int)]) ((t.extract (get t.data.toList).2.1 t.size).data.toList) = G) := by rw [extract_drop, ← hon]; exact hgo
        have hg := ref22_get t wr (by omega)
        unfold getV at hg
        have hz := hbel.size
        obtain ⟨h1, h2, h3⟩ := hfa.2.1 he
        have h4 := hfa.1
        clear hfa hon hgo hf'
        generalize get t.data.toList = g at hg he hgo2 h1 h2 h3 h4
        obtain ⟨gn, gs, ge⟩ := g
        simp only at he hg hgo2 h1 h2 h3 h4
        subst he
        have hg2 := hide hg
        clear hg
        go_wp2_with (first
          | (go_at_call 33; refine hg2.out.mono ?_; rintro e w1 ⟨rfl, rfl⟩)
          | (at_builtin; refine wpList_app1 elInt rfl (.tmp 19) (.tmp 21) rfl w.heap.size _ _ _ [.int .i64 (gn : Int)] 3 rfl how rfl rfl (one1 rfl) (by omega) (by omega) ?_; intro v1 w1 how1 hb1 hgr1 hat1))
        have how2 : w1.ownsRow w.heap.size 3 1 v1 (acc ++ [(gn : Int)]).length ((acc ++ [(gn : Int)]).map iv) := by simpa [iv] using how1
        have hbel2 := hbel.trans hb1
        clear how1 hb1 hgr1 hat1 how hbel hz
        go_wp2_with fail
        go_roundw
        case rel =>
          refine ⟨t.extract gs t.size, acc ++ [(gn : Int)], f', rfl, ?_, by omega, ?_, how2, hgo2, hbel2⟩
          · simp; omega
          · simp; omega
        case measure => simp [strLen]; omega
      · have hres : Hid (([], ((get t.data.toList).2.2 : Int)) = G) := by rw [← hgo.out, allGo_bad hnl (by rw [list_size]; exact htf) he]; rfl
        have hg := ref22_get t wr (by omega)
        unfold getV at hg
        clear hfa
        generalize get t.data.toList = g at hg he hres
        obtain ⟨gn, gs, ge⟩ := g
        simp only at he hg hres
        have hg2 := hide hg
        clear hg
        go_wp2_with (go_at_call 33; refine hg2.out.mono ?_; rintro e w1 ⟨rfl, rfl⟩)
        go_ret2
        exact ⟨_, by rw [← hres.out]; rfl, by rw [← hres.out]; exact own_nil_ints _ _, hbel⟩

set_option maxRecDepth 100000 in
/-- Two slices that hold the same list. -/
theorem same_yes (A B : Option Addr) (n c d : Nat) (f : Nat → Int) (w : World) (hA : Rd w A n 1 (fun i => .int .i64 (f i))) (hB : Rd w B n 1 (fun i => .int .i64 (f i))) (hn : n ≤ 1000000) :
    Calls Try.prog 36 #[.slice A n c, .slice B n d] w fun e w' => e = .returned (.bool true) ∧ Below w.heap.size w w' := by
  go_enter Try.func36, Try.ntmps36
  go_wp2_with fail
  go_loopw [5] (fun x wr => ∃ k : Nat, x = .int .i64 k ∧ k ≤ n ∧ Below w.heap.size w wr) (fun x _ => n - (intOf x).toNat)
  case atStart => exact ⟨0, rfl, by omega, Below.refl _ _⟩
  case round =>
    obtain ⟨k, rfl, hk, hbel⟩ := hrel
    by_cases hlt : k < n
    · obtain ⟨b1, o1, rfl, hb1, hc1⟩ := (hA.kept hbel) (by omega)
      obtain ⟨b2, o2, rfl, hb2, hc2⟩ := (hB.kept hbel) (by omega)
      have hk1 := hc1 k (by omega)
      have hk2 := hc2 k (by omega)
      clear hc1 hc2
      go_wp2_with fail
      go_quiet (fail)
      go_wp2_with fail
      go_roundw
      case rel => exact ⟨k + 1, by go_num, by omega, below_drewN hbel _⟩
      case measure => simp [intOf]; omega
    · obtain rfl : k = n := by omega
      go_wp2_with fail
      go_ret
      exact ⟨rfl, hbel⟩
end Go.Proofs.Ytclndbaafibaiaa
