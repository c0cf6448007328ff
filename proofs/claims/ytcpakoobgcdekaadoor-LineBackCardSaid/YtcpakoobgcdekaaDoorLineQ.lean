/- Lines of commands: the closure of line.Print. By the prover of this repo. -/
import Derived.Test.YtcpakoobgcdekaaDoorLineO
import Derived.Test.YtcpakoobgcdekaaDoorDig
import Derived.Maps.AppendAt
namespace Go.Proofs.YtcpakoobgcdekaaDoor
open Go.RowKit

theorem emp_iff (s : ByteArray) : s = ⟨#[]⟩ ∨ 0 < s.size := by
  by_cases h : s = ByteArray.empty
  · exact .inl h
  · exact .inr (str_emp h)
theorem print_skip (g : Nat) (w : World) : Calls Tryd.prog 72 #[.string ⟨#[]⟩, .pointer (some ⟨g, 0, none⟩)] w fun e w' => e = .returned (.tuple #[]) ∧ w = w' := by
  go_enter Tryd.func72, Tryd.ntmps72
  go_wp2_with fail
  (try simp only [Exit.inBlock, Exit.then])
  first
    | (refine bodyPost_ret (results_none rfl _ _ _) rfl ?_; exact ⟨rfl, rfl⟩)
    | (refine bodyPost_end (results_none rfl _ _ _) rfl ?_; exact ⟨rfl, rfl⟩)
set_option maxRecDepth 100000 in
set_option maxHeartbeats 1000000 in
theorem print_add (s : ByteArray) (hs : 0 < s.size) (g n₀ n : Nat) (v : Value) (L : List ByteArray) (w : World) (hL : L.length = n) (hn : n ≤ 1000000) (hv : Boxed w g 86 v) (hrow : w.ownsRow n₀ 9 1 v n (sv L)) (hg : n₀ ≤ g) :
    Calls Tryd.prog 72 #[.string s, .pointer (some ⟨g, 0, none⟩)] w fun e w' => e = .returned (.tuple #[]) ∧ (∃ v', Boxed w' g 86 v' ∧ w'.ownsRow n₀ 9 1 v' (n + 1) (sv (L ++ [s]))) ∧ Below n₀ w w' := by
  have he := isEmpty_str hs
  have hz : n₀ ≤ w.heap.size := Nat.le_trans hg (Nat.le_of_lt hv.lt)
  have hcv := hv.cell
  obtain ⟨A, c, rfl, h1, h2, h3⟩ := own_form hrow
  have hv := hide hv
  have hrow := hide hrow
  go_enter Tryd.func72, Tryd.ntmps72
  go_wp2_with (at_builtin; refine wpList_app1 elStr rfl (.tmp 5) (.tmp 7) rfl n₀ _ _ _ [.string s] 9 rfl hrow.out rfl rfl (one1 rfl) (by omega) hz ?_; intro v3 w3 how3 hb3 hgr3 hat3; obtain ⟨g', cap', rfl⟩ := ownsRow_succ how3; have hv3 := hv.out.kept (show w.grownBy w3 (Value.slice A n c).ownBlock from hgr3) (hv.out.not_row (by decide) hrow.out); have e3 := hv3.cell; have f3 := hv3.frozen; have hv3 := hide hv3; have how3 := hide how3; have hb3 := hide hb3; clear hgr3 hat3)
  (try simp only [Exit.inBlock, Exit.then])
  first
    | refine bodyPost_ret (results_none rfl _ _ _) rfl ?_
    | refine bodyPost_end (results_none rfl _ _ _) rfl ?_
  exact ⟨rfl, ⟨_, hv3.out.set _, by rw [sv_snoc]; exact how3.out.kept (grownBy_setCell' w3 g _) (.inr (hv3.out.not_row (by decide) how3.out).symm)⟩, hb3.out.setCell (p := ⟨g, 0, none⟩) hg _⟩
end Go.Proofs.YtcpakoobgcdekaaDoor
