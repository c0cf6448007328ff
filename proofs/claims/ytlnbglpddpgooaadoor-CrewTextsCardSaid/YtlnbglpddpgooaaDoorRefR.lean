/- The reference's reading of a set, walked. By the prover of this repo. -/
import Derived.Test.YtlnbglpddpgooaaDoorRefN
import Derived.Test.YtlnbglpddpgooaaDoorRefT
import Derived.Test.YtlnbglpddpgooaaDoorLineB
namespace Go.Proofs.YtlnbglpddpgooaaDoor
open Go.RowKit

def szV : Value → Nat
  | .string r => r.size
  | _ => 0
theorem szV_str (r : ByteArray) : szV (.string r) = r.size := rfl
theorem numF_size' (r : ByteArray) : (numF r.data.toList).2.1 ≤ r.size := by
  have := numF_len r.data.toList
  simpa using this
theorem str_nil {r : ByteArray} (h : r = ⟨#[]⟩) : r.data.toList = [] := by rw [h]
theorem str_pos {r : ByteArray} (h : ¬ r = ⟨#[]⟩) : 0 < r.size := by
  refine Nat.pos_of_ne_zero fun e => h (str_ext ?_)
  have := nil_of_size r (by omega)
  rw [this]
theorem str_head {r : ByteArray} (h : 0 < r.size) : r.data.toList = r[0] :: (r.extract 1 r.size).data.toList := by
  have := drop_at r 0 h
  rw [List.drop_zero] at this
  rw [this, extract_drop]
theorem spanF_lt (S n m : Nat) (hS : S < 281474976710656) (hn : n < 48) (hm : m < 48) : ∃ q : Nat, q < 281474976710656 ∧ spanF (S : Int) (n, m) = (q : Int) := by
  obtain ⟨q, h1, h2, _⟩ := addF_bits (m + 1 - n) S n hS (by omega)
  exact ⟨q, h2, h1⟩
set_option maxRecDepth 100000 in
set_option maxHeartbeats 1000000 in
theorem ref27_read (t : ByteArray) (ht : t.size ≤ 1000) (w : World) :
    Calls Tryd.prog 28 #[.string t] w fun e w' => e = .returned (.tuple #[.int .u64 (readR t).1, .bool (readR t).2]) ∧ Below w.heap.size w w' := by
  unfold readR
  by_cases hd : t = ⟨#[45]⟩
  · subst hd
    rw [if_pos rfl]
    go_enter Tryd.func28, Tryd.ntmps28
    go_wp2_with fail
    go_ret2
    exact ⟨rfl, Below.refl _ _⟩
  · rw [if_neg hd]
    obtain ⟨G, hG⟩ : ∃ G, Hid (readG t (rdG (t.size + 1) 0 t.data.toList) = G) := ⟨_, rfl⟩
    rw [hG.out]
    have hd1 : (t.toList == [45]) = false := by
      have := str_ne hd
      rwa [ByteArray.toList_eq ⟨#[45]⟩] at this
    have hNum := hide (fun (r : ByteArray) (h : r.size ≤ 1000) (W : World) => ref25_number r W (by omega))
    have hIs := hide (fun (i : Int) (W : World) => ref27_is i W)
    have hWith := hide (fun (S : Int) (m : Nat) (h : 0 ≤ S ∧ S < 18446744073709551616) (W : World) => ref27_with S m W h.1 h.2)
    have hText := hide (fun (s : Nat) (h : s < 18446744073709551616) (W : World) => ref27_text s h W)
    clear hd
    go_enter Tryd.func28, Tryd.ntmps28
    go_wp2_with fail
    go_loopw [4, 5] (fun sv rv wr => ∃ (f : Nat) (S : Nat) (r : ByteArray), sv = .int .u64 S ∧ rv = .string r ∧ r.size < f ∧ r.size ≤ 1000 ∧ S < 281474976710656 ∧ Hid (readG t (rdG f (S : Int) r.data.toList) = G) ∧ w = wr) (fun _ rv _ => szV rv)
    case atStart => exact ⟨t.size + 1, 0, t, rfl, rfl, by omega, ht, by omega, hG, rfl⟩
    case round =>
      clear hG hd1
      obtain ⟨f, S, r, rfl, rfl, hf, hr, hS, hgo, rfl⟩ := hrel
      obtain ⟨f, rfl⟩ : ∃ g, f = g + 1 := ⟨f - 1, by omega⟩
      rw [rdG_succ] at hgo
      have hk := numF_size' r
      have c1 := hide (fun W => hNum.out r hr W)
      generalize numF r.data.toList = N at *
      obtain ⟨n, k, ok⟩ := N
      simp only [] at hgo hk c1
      have c2 := hide (fun W => hIs.out n W)
      cases ok
      · have hres : Hid ((0, false) = G) := by show _ = _; rw [← hgo.out, if_neg (fun h => by cases h.1)]; rfl
        clear hgo
        go_wp2_with fail
        refine Calls.mono (c1.out _) ?_
        rintro e w1 ⟨rfl, rfl⟩
        go_wp2_with fail
        go_ret2
        exact ⟨by rw [← hres.out]; rfl, Below.refl _ _⟩
      · by_cases hn : n < 48
        · rw [decide_eq_true (show (0 : Int) ≤ n ∧ (n : Int) < 48 by omega)] at c2
          rw [if_pos ⟨rfl, hn⟩, ← extract_drop] at hgo
          have hr1 : (r.extract k r.size).size ≤ r.size := by rw [ByteArray.size_extract]; omega
          have hkb : (k : Int) ≤ r.size := by omega
          generalize hr1' : r.extract k r.size = r1 at *
          by_cases hz : r1 = ⟨#[]⟩
          · rw [str_nil hz, rdD_nil] at hgo
            have hm := hn
            have he1 : r1.toList.isEmpty = true := by rw [hz, ByteArray.toList_eq]; rfl
            subst hz
            go_wp2_with fail
            refine Calls.mono (c1.out _) ?_
            rintro e w1 ⟨rfl, rfl⟩
            go_wp2_with fail
            refine Calls.mono (c2.out _) ?_
            rintro e w1 ⟨rfl, rfl⟩
            go_wp2_with fail
            obtain ⟨S2, hS2, hspan'⟩ := spanF_lt S n n hS hn hm
            rw [hspan'] at hgo
            have hspan : Hid (addF (n + 1 - n) S (n : Int) = (S2 : Int)) := hspan'
            go_loopw [4, 13] (fun sv i wq => ∃ (j : Nat) (S' : Int), i = .int .i64 j ∧ sv = .int .u64 S' ∧ j ≤ 48 ∧ (0 ≤ S' ∧ S' < 18446744073709551616) ∧ Hid (addF (n + 1 - j) S' (j : Int) = (S2 : Int)) ∧ w = wq) (fun _ i _ => 48 - (intOf i).toNat)
            case atStart => exact ⟨n, S, rfl, rfl, by omega, ⟨by omega, by omega⟩, hspan, rfl⟩
            case round =>
              clear hspan
              obtain ⟨j, S', rfl, rfl, hj, hS', hsp, rfl⟩ := hrel
              by_cases hle : j ≤ n
              · have hsp2 : Hid (addF (n + 1 - (j + 1)) (withF S' (j : Int)) ((j + 1 : Nat) : Int) = (S2 : Int)) := by
                  show _ = _
                  rw [← hsp.out, show n + 1 - j = (n + 1 - (j + 1)) + 1 by omega, addF_succ]
                  rfl
                have hW1 := hide (fun W => hWith.out S' j hS' W)
                have hSb := with_bd S' (j : Int) hS'.1 hS'.2
                generalize withF S' (j : Int) = S3 at *
                clear hsp
                go_wp2_with (go_at_call 13; refine (hW1.out _).mono ?_; rintro e w5 ⟨rfl, rfl⟩)
                go_roundw
                case rel => exact ⟨j + 1, S3, by go_num, rfl, by omega, hSb, hsp2, by first | rfl | trivial⟩
                case measure => simp [intOf]; omega
              · have hsp2 : Hid (S' = (S2 : Int)) := by
                  show _ = _
                  rw [← hsp.out, show n + 1 - j = 0 by omega, addF_zero]
                obtain rfl := hsp2.out
                clear hsp hsp2
                have hgoE := hgo
                clear hgo
                have hx0 := hText.out S2 (by omega)
                have hok := textF_ok S2
                rw [decide_eq_true hS2] at hok
                by_cases hx : (textF S2).1 = t
                · have hres : Hid (((S2 : Int), true) = G) := by show _ = _; rw [← hgoE.out]; unfold readG; simp only [Int.toNat_natCast]; rw [if_pos hx]
                  rw [hx, hok] at hx0
                  have hxt := hide hx0
                  clear hgoE hx0 hok hx
                  go_wp2_with (go_at_call 26; refine (hxt.out _).mono ?_; rintro e w6 ⟨rfl, hb6⟩; have hb6 := hide hb6)
                  go_ret2
                  exact ⟨by rw [← hres.out]; rfl, hb6.out⟩
                · have hres : Hid ((0, false) = G) := by show _ = _; rw [← hgoE.out]; unfold readG; simp only [Int.toNat_natCast]; rw [if_neg hx]
                  rw [hok] at hx0
                  generalize (textF S2).1 = tx at *
                  have hx2 := str_ne hx
                  have hxt := hide hx0
                  clear hgoE hx0 hok hx
                  go_wp2_with (go_at_call 26; refine (hxt.out _).mono ?_; rintro e w6 ⟨rfl, hb6⟩; have hb6 := hide hb6)
                  go_ret2
                  exact ⟨by rw [← hres.out]; rfl, hb6.out⟩
          · have hp := str_pos hz
            have he1 := not_empty hz
            clear hz
            by_cases h45 : r1[0].toNat = 45
            · have hc45 : r1[0] = 45 := by rw [← UInt8.toNat_inj, h45]; rfl
              have hb45 : ((r1[0].toNat : Int) == 45) = true := by rw [h45]; decide
              rw [str_head hp, rdD_cons, if_pos hc45] at hgo
              have hr2 : (r1.extract 1 r1.size).size + 1 ≤ r1.size := by rw [ByteArray.size_extract]; omega
              have hone : (1 : Int) ≤ r1.size := by omega
              have hk2 := numF_size' (r1.extract 1 r1.size)
              have c3 := hide (fun W => hNum.out (r1.extract 1 r1.size) (by omega) W)
              have hex : ∀ q, q ≤ r1.size - 1 → (r1.extract 1 r1.size).data.toList.drop q = (r1.extract (1 + q) r1.size).data.toList := fun q hq => by
                rw [extract_drop, extract_drop, List.drop_drop]
              generalize numF (r1.extract 1 r1.size).data.toList = N at *
              obtain ⟨m, k2, ok2⟩ := N
              simp only [] at hgo hk2 c3
              have c4 := hide (fun W => hIs.out m W)
              clear hc45
              cases ok2
              · have hres : Hid ((0, false) = G) := by show _ = _; rw [← hgo.out, if_neg (fun h => by cases h.1)]; rfl
                clear hgo hex
                go_wp2_with fail
                refine Calls.mono (c1.out _) ?_
                rintro e w1 ⟨rfl, rfl⟩
                go_wp2_with fail
                refine Calls.mono (c2.out _) ?_
                rintro e w1 ⟨rfl, rfl⟩
                go_wp2_with fail
                refine Calls.mono (c3.out _) ?_
                rintro e w1 ⟨rfl, rfl⟩
                go_wp2_with fail
                go_ret2
                exact ⟨by rw [← hres.out]; rfl, Below.refl _ _⟩
              · by_cases hm : m < 48
                · rw [decide_eq_true (show (0 : Int) ≤ m ∧ (m : Int) < 48 by omega)] at c4
                  rw [if_pos ⟨rfl, hm⟩, hex k2 (by omega)] at hgo
                  have hr3 : (r1.extract (1 + k2) r1.size).size ≤ r1.size := by rw [ByteArray.size_extract]; omega
                  have hkb2 : (1 : Int) + k2 ≤ r1.size := by omega
                  have hkb3 : (0 : Int) ≤ 1 + k2 := by omega
                  have hgo3 := hgo
                  clear hgo hex
                  go_wp2_with fail
                  refine Calls.mono (c1.out _) ?_
                  rintro e w1 ⟨rfl, rfl⟩
                  go_wp2_with fail
                  refine Calls.mono (c2.out _) ?_
                  rintro e w1 ⟨rfl, rfl⟩
                  go_wp2_with fail
                  refine Calls.mono (c3.out _) ?_
                  rintro e w1 ⟨rfl, rfl⟩
                  go_wp2_with fail
                  refine Calls.mono (c4.out _) ?_
                  rintro e w1 ⟨rfl, rfl⟩
                  go_wp2_with fail
                  generalize hr3' : r1.extract (1 + k2) r1.size = r3 at *
                  obtain ⟨S2, hS2, hspan'⟩ := spanF_lt S n m hS hn hm
                  rw [hspan'] at hgo3
                  have hspan : Hid (addF (m + 1 - n) S (n : Int) = (S2 : Int)) := hspan'
                  go_loopw [4, 13] (fun sv i wq => ∃ (j : Nat) (S' : Int), i = .int .i64 j ∧ sv = .int .u64 S' ∧ j ≤ 48 ∧ (0 ≤ S' ∧ S' < 18446744073709551616) ∧ Hid (addF (m + 1 - j) S' (j : Int) = (S2 : Int)) ∧ w = wq) (fun _ i _ => 48 - (intOf i).toNat)
                  case atStart => exact ⟨n, S, rfl, rfl, by omega, ⟨by omega, by omega⟩, hspan, rfl⟩
                  case round =>
                    clear hspan
                    obtain ⟨j, S', rfl, rfl, hj, hS', hsp, rfl⟩ := hrel
                    by_cases hle : j ≤ m
                    · have hsp2 : Hid (addF (m + 1 - (j + 1)) (withF S' (j : Int)) ((j + 1 : Nat) : Int) = (S2 : Int)) := by
                        show _ = _
                        rw [← hsp.out, show m + 1 - j = (m + 1 - (j + 1)) + 1 by omega, addF_succ]
                        rfl
                      have hW1 := hide (fun W => hWith.out S' j hS' W)
                      have hSb := with_bd S' (j : Int) hS'.1 hS'.2
                      generalize withF S' (j : Int) = S3 at *
                      clear hsp
                      go_wp2_with (go_at_call 13; refine (hW1.out _).mono ?_; rintro e w5 ⟨rfl, rfl⟩)
                      go_roundw
                      case rel => exact ⟨j + 1, S3, by go_num, rfl, by omega, hSb, hsp2, by first | rfl | trivial⟩
                      case measure => simp [intOf]; omega
                    · have hsp2 : Hid (S' = (S2 : Int)) := by
                        show _ = _
                        rw [← hsp.out, show m + 1 - j = 0 by omega, addF_zero]
                      obtain rfl := hsp2.out
                      clear hsp hsp2
                      by_cases hz3 : r3 = ⟨#[]⟩
                      · have hgoE : Hid (readG t (some (S2 : Int)) = G) := by show _ = _; rw [← hgo3.out, str_nil hz3, rdT_nil]
                        subst hz3
                        clear hgo3
                        have hx0 := hText.out S2 (by omega)
                        have hok := textF_ok S2
                        rw [decide_eq_true hS2] at hok
                        by_cases hx : (textF S2).1 = t
                        · have hres : Hid (((S2 : Int), true) = G) := by show _ = _; rw [← hgoE.out]; unfold readG; simp only [Int.toNat_natCast]; rw [if_pos hx]
                          rw [hx, hok] at hx0
                          have hxt := hide hx0
                          clear hgoE hx0 hok hx
                          go_wp2_with (go_at_call 26; refine (hxt.out _).mono ?_; rintro e w6 ⟨rfl, hb6⟩; have hb6 := hide hb6)
                          go_ret2
                          exact ⟨by rw [← hres.out]; rfl, hb6.out⟩
                        · have hres : Hid ((0, false) = G) := by show _ = _; rw [← hgoE.out]; unfold readG; simp only [Int.toNat_natCast]; rw [if_neg hx]
                          rw [hok] at hx0
                          generalize (textF S2).1 = tx at *
                          have hx2 := str_ne hx
                          have hxt := hide hx0
                          clear hgoE hx0 hok hx
                          go_wp2_with (go_at_call 26; refine (hxt.out _).mono ?_; rintro e w6 ⟨rfl, hb6⟩; have hb6 := hide hb6)
                          go_ret2
                          exact ⟨by rw [← hres.out]; rfl, hb6.out⟩
                      · have hp := str_pos hz3
                        have he3 := not_empty hz3
                        clear hr3' hz3
                        by_cases h44 : r3[0].toNat = 44
                        · have hc : r3[0] = 44 := by rw [← UInt8.toNat_inj, h44]; rfl
                          rw [str_head hp, rdT_cons, if_pos hc] at hgo3
                          have hrest : (r3.extract 1 r3.size).size + 1 ≤ r3.size := by rw [ByteArray.size_extract]; omega
                          have hb44 : ((r3[0].toNat : Int) != 44) = false := by rw [h44]; decide
                          have hone : (1 : Int) ≤ r3.size := by omega
                          generalize hr4 : r3.extract 1 r3.size = r4 at *
                          go_wp2_with fail
                          go_roundw
                          case' rel => exact ⟨f, S2, r4, rfl, rfl, by omega, by omega, hS2, hgo3, by first | rfl | trivial⟩
                          case' measure => rw [szV_str, szV_str]; omega
                        · have hc : ¬ r3[0] = 44 := fun e => h44 (by rw [e]; rfl)
                          have hb44 : ((r3[0].toNat : Int) != 44) = true := by simp; omega
                          have hres : Hid ((0, false) = G) := by show _ = _; rw [← hgo3.out, str_head hp, rdT_cons, if_neg hc]; rfl
                          clear hgo3
                          go_wp2_with fail
                          go_ret2
                          exact ⟨by rw [← hres.out]; rfl, Below.refl _ _⟩
                · rw [decide_eq_false (show ¬ ((0 : Int) ≤ m ∧ (m : Int) < 48) by omega)] at c4
                  have hres : Hid ((0, false) = G) := by show _ = _; rw [← hgo.out, if_neg (fun h => hm h.2)]; rfl
                  clear hgo hex
                  go_wp2_with fail
                  refine Calls.mono (c1.out _) ?_
                  rintro e w1 ⟨rfl, rfl⟩
                  go_wp2_with fail
                  refine Calls.mono (c2.out _) ?_
                  rintro e w1 ⟨rfl, rfl⟩
                  go_wp2_with fail
                  refine Calls.mono (c3.out _) ?_
                  rintro e w1 ⟨rfl, rfl⟩
                  go_wp2_with fail
                  refine Calls.mono (c4.out _) ?_
                  rintro e w1 ⟨rfl, rfl⟩
                  go_wp2_with fail
                  go_ret2
                  exact ⟨by rw [← hres.out]; rfl, Below.refl _ _⟩
            · have hc45 : ¬ r1[0] = 45 := fun e => h45 (by rw [e]; rfl)
              have hb45 : ((r1[0].toNat : Int) == 45) = false := by rw [beq_eq_false_iff_ne]; omega
              rw [str_head hp, rdD_cons, if_neg hc45, ← str_head hp] at hgo
              have hm := hn
              have hgo3 := hgo
              clear hgo hc45
              go_wp2_with fail
              refine Calls.mono (c1.out _) ?_
              rintro e w1 ⟨rfl, rfl⟩
              go_wp2_with fail
              refine Calls.mono (c2.out _) ?_
              rintro e w1 ⟨rfl, rfl⟩
              go_wp2_with fail
              obtain ⟨S2, hS2, hspan'⟩ := spanF_lt S n n hS hn hm
              rw [hspan'] at hgo3
              have hspan : Hid (addF (n + 1 - n) S (n : Int) = (S2 : Int)) := hspan'
              go_loopw [4, 13] (fun sv i wq => ∃ (j : Nat) (S' : Int), i = .int .i64 j ∧ sv = .int .u64 S' ∧ j ≤ 48 ∧ (0 ≤ S' ∧ S' < 18446744073709551616) ∧ Hid (addF (n + 1 - j) S' (j : Int) = (S2 : Int)) ∧ w = wq) (fun _ i _ => 48 - (intOf i).toNat)
              case atStart => exact ⟨n, S, rfl, rfl, by omega, ⟨by omega, by omega⟩, hspan, rfl⟩
              case round =>
                clear hspan
                obtain ⟨j, S', rfl, rfl, hj, hS', hsp, rfl⟩ := hrel
                by_cases hle : j ≤ n
                · have hsp2 : Hid (addF (n + 1 - (j + 1)) (withF S' (j : Int)) ((j + 1 : Nat) : Int) = (S2 : Int)) := by
                    show _ = _
                    rw [← hsp.out, show n + 1 - j = (n + 1 - (j + 1)) + 1 by omega, addF_succ]
                    rfl
                  have hW1 := hide (fun W => hWith.out S' j hS' W)
                  have hSb := with_bd S' (j : Int) hS'.1 hS'.2
                  generalize withF S' (j : Int) = S3 at *
                  clear hsp
                  go_wp2_with (go_at_call 13; refine (hW1.out _).mono ?_; rintro e w5 ⟨rfl, rfl⟩)
                  go_roundw
                  case rel => exact ⟨j + 1, S3, by go_num, rfl, by omega, hSb, hsp2, by first | rfl | trivial⟩
                  case measure => simp [intOf]; omega
                · have hsp2 : Hid (S' = (S2 : Int)) := by
                    show _ = _
                    rw [← hsp.out, show n + 1 - j = 0 by omega, addF_zero]
                  obtain rfl := hsp2.out
                  clear hsp hsp2
                  by_cases h44 : r1[0].toNat = 44
                  · have hc : r1[0] = 44 := by rw [← UInt8.toNat_inj, h44]; rfl
                    rw [str_head hp, rdT_cons, if_pos hc] at hgo3
                    have hrest : (r1.extract 1 r1.size).size + 1 ≤ r1.size := by rw [ByteArray.size_extract]; omega
                    have hb44 : ((r1[0].toNat : Int) != 44) = false := by rw [h44]; decide
                    have hone : (1 : Int) ≤ r1.size := by omega
                    generalize hr4 : r1.extract 1 r1.size = r4 at *
                    go_wp2_with fail
                    go_roundw
                    case' rel => exact ⟨f, S2, r4, rfl, rfl, by omega, by omega, hS2, hgo3, by first | rfl | trivial⟩
                    case' measure => rw [szV_str, szV_str]; omega
                  · have hc : ¬ r1[0] = 44 := fun e => h44 (by rw [e]; rfl)
                    have hb44 : ((r1[0].toNat : Int) != 44) = true := by simp; omega
                    have hres : Hid ((0, false) = G) := by show _ = _; rw [← hgo3.out, str_head hp, rdT_cons, if_neg hc]; rfl
                    clear hgo3
                    go_wp2_with fail
                    go_ret2
                    exact ⟨by rw [← hres.out]; rfl, Below.refl _ _⟩
        · rw [decide_eq_false (show ¬ ((0 : Int) ≤ n ∧ (n : Int) < 48) by omega)] at c2
          have hres : Hid ((0, false) = G) := by show _ = _; rw [← hgo.out, if_neg (fun h => hn h.2)]; rfl
          clear hgo
          go_wp2_with fail
          refine Calls.mono (c1.out _) ?_
          rintro e w1 ⟨rfl, rfl⟩
          go_wp2_with fail
          refine Calls.mono (c2.out _) ?_
          rintro e w1 ⟨rfl, rfl⟩
          go_wp2_with fail
          go_ret2
          exact ⟨by rw [← hres.out]; rfl, Below.refl _ _⟩
end Go.Proofs.YtlnbglpddpgooaaDoor
