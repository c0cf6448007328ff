/- The walks of layer 28, on: the reference's Below; the set of a list. By the prover of this repo. -/
import Derived.Test.YtcpakoobgcdekaaDoorGroveI
import Derived.Test.YtcpakoobgcdekaaDoorSets
namespace Go.Proofs.YtcpakoobgcdekaaDoor
open Go.RowKit Go.Shelf

/-- Two owned slices lie in blocks of their own. -/
def Off (u v : Value) : Prop := ∀ g, u.ownBlock = some g → v.ownBlock ≠ some g
theorem off_after {w : World} {base : Nat} {e : TypeId} {size n k : Nat} {u v u' : Value} {xs : List Value} (h : Off u v) (hv : w.ownsRow base e size v n xs) (hk : w.heap.size < k + 1) (hat : u'.ownBlock = u.ownBlock ∨ u'.ownBlock = some k) : Off u' v := fun g hg hvg => by
  have h1 := (hv.lt g hvg).2
  rcases hat with hat | hat
  · exact h g (by rw [← hat]; exact hg) hvg
  · rw [hat] at hg
    injection hg with hg
    omega
theorem own_off {w w' : World} {base : Nat} {e : TypeId} {size n : Nat} {u v : Value} {xs : List Value} (h : Off u v) (hv : w.ownsRow base e size v n xs) (hg : w.grownBy w' u.ownBlock) : w'.ownsRow base e size v n xs := by
  refine hv.kept hg ?_
  cases hvb : v.ownBlock with
  | none => exact .inl rfl
  | some g => exact .inr fun k => h g k.symm hvb
theorem off_new {w w' : World} {base : Nat} {e e' : TypeId} {size size' n n' : Nat} {u v : Value} {xs ys : List Value} (hu : w.ownsRow base e size u n xs) (hv : w'.ownsRow w.heap.size e' size' v n' ys) : Off u v := fun g h1 h2 => by
  have a := (hu.lt g h1).2
  have b := (hv.lt g h2).1
  omega
theorem own_rdi {w : World} {base k c : Nat} {A : Option Addr} {l : List Int} (h : w.ownsRow base 3 1 (.slice A k c) k (iv l)) (hk : l.length = k) : Rd w A k 1 (ic l) := by
  obtain ⟨A', c', e, _, _, _, hr⟩ := own_its hk h
  injection e with e1 e2 e3
  subst e1
  rw [hk] at hr
  exact hr

/-- Who has a sensor on its way, among the first k. -/
def OnWay (p : List Int) (i : Int) (k : Nat) (L : List Nat) : Prop := ∀ x, x ∈ L ↔ x < k ∧ i ∈ (upF p 48 (x : Int)).getD []
set_option maxRecDepth 100000 in
set_option maxHeartbeats 1000000 in
theorem ref28_below (A : Option Addr) (c : Nat) (p : List Int) (i : Int) (w : World) (hr : Rd w A p.length 1 (ic p)) (hn : p.length ≤ 1000) :
    Calls Tryd.prog 29 #[.slice A p.length c, .int .i64 i] w fun e w' => ∃ v L, e = .returned v ∧ Its w' v (intN L) ∧ OnWay p i p.length L ∧ L.length ≤ 48 * p.length ∧ Below w.heap.size w w' := by
  have hup := hide (fun (W : World) (hb : Below w.heap.size w W) (j : Nat) (hj : j < p.length) => ref_way2 A c p j W (hr.of_below (Nat.le_refl _) hb) hn hj)
  have hwl : ∀ k : Nat, ((upF p 48 (k : Int)).getD []).length ≤ 48 := fun k => by
    cases h : upF p 48 (k : Int) with
    | none => simp
    | some v => exact (upF_length h).2.2.1
  have hwl := hide hwl
  obtain ⟨n, hnn⟩ : ∃ n, Hid (p.length = n) := ⟨_, rfl⟩
  rw [hnn.out] at hn hup ⊢
  clear hr
  go_enter Tryd.func29, Tryd.ntmps29
  go_wp2_with fail
  go_loopw [5, 6] (fun out x wr => ∃ (k : Nat) (L : List Nat), x = .int .i64 k ∧ k ≤ n ∧ wr.ownsRow w.heap.size 3 1 out L.length (iv (intN L)) ∧ L.length ≤ 48 * k ∧ Hid (OnWay p i k L) ∧ Below w.heap.size w wr) (fun _ x _ => n - (intOf x).toNat)
  case atStart => exact ⟨0, [], rfl, Nat.zero_le _, World.ownsRow_nil _ _ _ _, Nat.zero_le _, fun x => by simp, Below.refl _ _⟩
  case round =>
    obtain ⟨k, L, rfl, hk, how, hlen, hon, hbel⟩ := hrel
    obtain ⟨Ao, co, rfl, ho1, ho2, ho3⟩ := own_form how
    by_cases hlt : k < n
    · have hu := hide (hup.out wr hbel k hlt)
      have hw := hwl.out k
      obtain ⟨Y, hY⟩ : ∃ Y, Hid ((upF p 48 (k : Int)).getD [] = Y) := ⟨_, rfl⟩
      rw [hY.out] at hu hw
      generalize (upF p 48 (k : Int)).isSome = q at *
      obtain ⟨y, hy⟩ : ∃ y, Hid (Y.length = y) := ⟨_, rfl⟩
      rw [hy.out] at hw
      have how := hide how
      have hbel := hide hbel
      obtain ⟨B, hB⟩ : ∃ B, Hid (wr.heap.size = B) := ⟨_, rfl⟩
      go_wp2_with (go_at_call 26; refine hu.out.mono ?_; rintro e w2 ⟨v, rfl, hv2, hb2⟩; rw [hy.out] at hv2; have hoff2 := off_new how.out hv2; rw [hB.out] at hv2; obtain ⟨A2, c2, rfl, _, _, _⟩ := own_form hv2; have hb2 := hide hb2; have hv2 := hide hv2; have hoff2 := hide hoff2)
      go_loopw [5, 9] (fun out x wq => ∃ (m : Nat) (L2 : List Nat), x = .int .i64 m ∧ m ≤ y ∧ wq.ownsRow w.heap.size 3 1 out L2.length (iv (intN L2)) ∧ wq.ownsRow B 3 1 (.slice A2 y c2) y (iv Y) ∧ Off out (.slice A2 y c2) ∧ L2.length ≤ L.length + m ∧ Hid (∀ z, z ∈ L2 ↔ z ∈ L ∨ (z = k ∧ i ∈ Y.take m)) ∧ Below w.heap.size w wq) (fun _ x _ => y - (intOf x).toNat)
      case atStart => exact ⟨0, L, rfl, Nat.zero_le _, own_kept1 how.out hb2.out, hv2.out, hoff2.out, Nat.le_refl _, fun z => by simp, hbel.out.trans (hb2.out.mono hbel.out.size)⟩
      case round =>
        clear hu
        obtain ⟨m, L2, rfl, hm, how2, hov, hoff, hl2, hz2, hbw⟩ := hrel
        obtain ⟨Ao, co, rfl, ho1, ho2, ho3⟩ := own_form how2
        have hz := hbw.size
        by_cases hmt : m < y
        · have hmY : m < Y.length := by rw [hy.out]; exact hmt
          have hr3 : Rd wr A2 Y.length 1 (ic Y) := by rw [hy.out]; exact own_rdi hov hy.out
          obtain ⟨b, off, rfl, hb, hc⟩ := it_at hr3 hmY
          have htk : Hid (Y.take (m + 1) = Y.take m ++ [Y[m]]) := List.take_succ_eq_append_getElem hmY
          clear hr3
          obtain ⟨l2, hl2e⟩ : ∃ l2, Hid (L2.length = l2) := ⟨_, rfl⟩
          rw [hl2e.out] at how2 hl2 ho1 ho2 hoff ⊢
          have how2 := hide how2
          have hov := hide hov
          have hoff := hide hoff
          have hbw := hide hbw
          by_cases hyi : Y[m] = i
          · rw [hyi] at hc htk
            clear hyi
            have hnew : Hid (∀ z, z ∈ L2 ++ [k] ↔ z ∈ L ∨ (z = k ∧ i ∈ Y.take (m + 1))) := fun z => by
              rw [htk.out, List.mem_append, hz2.out]
              simp only [List.mem_append, List.mem_singleton]
              constructor
              · rintro ((h | ⟨h1, h2⟩) | h)
                · exact .inl h
                · exact .inr ⟨h1, .inl h2⟩
                · exact .inr ⟨h, .inr trivial⟩
              · rintro (h | ⟨h1, _⟩)
                · exact .inl (.inl h)
                · exact .inr h1
            go_wp2_with (at_builtin; refine wpList_app1 elInt rfl (.tmp 34) (.tmp 36) rfl w.heap.size _ _ _ [.int .i64 (k : Int)] 3 rfl how2.out rfl rfl (one1 rfl) (by omega) hz ?_; intro v1 w3 how3 hb3 hgr1 hat1; have how3 := hide how3; have hb3 := hide hb3; have hgr1 := hide hgr1; have hat1 := hide hat1)
            go_roundw
            case rel => exact ⟨m + 1, L2 ++ [k], by go_num, by omega, by rw [List.length_append, show intN (L2 ++ [k]) = intN L2 ++ [(k : Int)] by simp [intN], iv_snoc, hl2e.out]; exact how3.out, own_off hoff.out hov.out hgr1.out, off_after hoff.out hov.out (by omega) hat1.out, by rw [List.length_append, hl2e.out]; simp; omega, hnew.out, hbw.out.trans hb3.out⟩
            case measure => simp [intOf]; omega
          · have hnew : Hid (∀ z, z ∈ L2 ↔ z ∈ L ∨ (z = k ∧ i ∈ Y.take (m + 1))) := fun z => by
              rw [htk.out, hz2.out]
              simp only [List.mem_append, List.mem_singleton]
              constructor
              · rintro (h | ⟨h1, h2⟩)
                · exact .inl h
                · exact .inr ⟨h1, .inl h2⟩
              · rintro (h | ⟨h1, h2 | h2⟩)
                · exact .inl h
                · exact .inr ⟨h1, h2⟩
                · exact absurd h2.symm hyi
            clear htk
            generalize Y[m] = yy at *
            have hne : (yy == i) = false := by simp; omega
            go_wp2_with fail
            go_roundw
            case rel => exact ⟨m + 1, L2, by go_num, by omega, by rw [hl2e.out]; exact how2.out, hov.out, hoff.out, by rw [hl2e.out]; omega, hnew.out, hbw.out⟩
            case measure => simp [intOf]; omega
        · obtain rfl : m = y := by omega
          have hnew : Hid (OnWay p i (k + 1) L2) := fun z => by
            rw [hz2.out, hon.out, List.take_of_length_le (by rw [hy.out]; omega)]
            constructor
            · rintro (⟨h1, h2⟩ | ⟨rfl, h2⟩)
              · exact ⟨by omega, h2⟩
              · exact ⟨by omega, by rw [hY.out]; exact h2⟩
            · rintro ⟨h1, h2⟩
              by_cases hzk : z = k
              · subst hzk
                rw [hY.out] at h2
                exact .inr ⟨rfl, h2⟩
              · exact .inl ⟨by omega, h2⟩
          have how2 := hide how2
          have hbw := hide hbw
          have hl48 : L2.length ≤ 48 * (k + 1) := by omega
          go_wp2_with fail
          go_roundw
          case rel => exact ⟨k + 1, L2, by go_num, by omega, how2.out, hl48, hnew.out, hbw.out⟩
          case measure => simp [intOf]; omega
    · obtain rfl : k = n := by omega
      have how := hide how
      have hbel := hide hbel
      go_wp2_with fail
      go_ret
      exact ⟨_, L, rfl, own_its (intN_length _) how.out, hon.out, hlen, hbel.out⟩
end Go.Proofs.YtcpakoobgcdekaaDoor
