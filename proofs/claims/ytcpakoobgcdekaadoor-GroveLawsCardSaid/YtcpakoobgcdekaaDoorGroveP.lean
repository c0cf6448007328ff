/- The law GroveLaws, walked. By the prover of this repo. -/
import Derived.Test.YtcpakoobgcdekaaDoorGroveO
namespace Go.Proofs.YtcpakoobgcdekaaDoor
open Go.RowKit Go.Shelf

theorem wrong_right {p : List Int} (hb : rightF p = true) {x : Nat} (hx : x < p.length) : wrongF p (x : Int) = 0 := by
  unfold wrongF
  rw [if_pos hb, if_neg (by omega)]
theorem below_right (A : Option Addr) (c : Nat) (p : List Int) (hb : rightF p = true) (x : Nat) (hx : x < p.length) (w : World) (hr : Rd w A p.length 1 (ic p)) (hT : Tz w) :
    Calls Tryd.prog 24 #[.slice A p.length c, .int .i64 x] w fun e w' => (∃ s : Nat, e = .returned (.tuple #[.int .u64 s, .int .i64 0]) ∧ SetOf (walkF p 48 x) s) ∧ Below w.heap.size w w' := by
  have h48 := (ways_of_right hb).2.2.1
  have h := grove_below A c p x w hr (by omega) hT
  have h0 := wrong_right hb hx
  unfold BelF at h
  rw [h0] at h
  refine h.mono ?_
  rintro e w' ⟨⟨s, rfl, h1, h2⟩, hb'⟩
  refine ⟨⟨s, rfl, h1, fun j => ?_⟩, hb'⟩
  rw [h2, decide_eq_true rfl, Bool.true_and, Int.toNat_natCast]
theorem order_round {p : List Int} (hb : rightF p = true) {o : List Nat} (ho : walkF p 48 (rootK p) = o) (m : Nat) (h : m < o.length) (s t : Nat) (hs : SetOf (o.take m) s) (ht : SetOf (walkF p 48 o[m]) t) :
    hasF (s : Int) (o[m] : Int) = false ∧ (∃ c : Nat, lessF (t : Int) (o[m] : Int) = (c : Int)) ∧ withinF (lessF (t : Int) (o[m] : Int)) (s : Int) = true ∧ ∃ u : Nat, withF (s : Int) (o[m] : Int) = (u : Int) ∧ SetOf (o.take (m + 1)) u := by
  have e : o = o.take m ++ o[m] :: o.drop (m + 1) := by rw [← List.drop_eq_getElem_cons h, List.take_append_drop]
  have hx : o[m] < p.length := (order_mem hb _).1 (by rw [ho]; exact List.getElem_mem h)
  have h48 := (ways_of_right hb).2.2.1
  obtain ⟨h1, h2, u, h3, h4⟩ := order_step hb (ho.trans e) hs ht
  obtain ⟨c, hc, _⟩ := less_set ht (show o[m] < 48 by omega)
  refine ⟨h1, ⟨c, hc⟩, h2, u, h3, ?_⟩
  rw [List.take_succ_eq_append_getElem h]
  exact h4
theorem kid_round {p : List Int} (hW : Ways p) (h48 : p.length ≤ 48) {k : Nat} (hk : k < p.length) {K : List Nat} (ho : kidsL p (k : Int) = K) (m : Nat) (h : m < K.length) (s t : Nat) (hs : SetOf (k :: (K.take m).flatMap (walkF p 48)) s) (ht : SetOf (walkF p 48 K[m]) t) :
    apartF (t : Int) (s : Int) = true ∧ SetOf (k :: (K.take (m + 1)).flatMap (walkF p 48)) (unionF [s, t]) := by
  have e : K = K.take m ++ K[m] :: K.drop (m + 1) := by rw [← List.drop_eq_getElem_cons h, List.take_append_drop]
  have h1 := kid_step hW h48 hk (ho.trans e) hs ht
  rw [List.take_succ_eq_append_getElem h]
  exact h1
theorem onway {p : List Int} (hb : rightF p = true) {i k : Nat} (hi : i < p.length) (hk : k < p.length) {s : Nat} (hs : SetOf (walkF p 48 k) s) : hasF (s : Int) (i : Int) = decide ((k : Int) ∈ wayV p i) := by
  obtain ⟨hW, _, h48, _⟩ := ways_of_right hb
  rw [hs.has (by omega), decide_eq_decide]
  have hg := (hgt_of_ways hW hk).1
  unfold wayV
  rw [if_pos (wrong_right hb hi)]
  constructor
  · intro h
    obtain ⟨_, w, hw, h2⟩ := walk_mem hW 48 k i hk hg h
    rw [hw]; exact h2
  · intro h
    obtain ⟨w, hw⟩ := hW i hi
    rw [hw] at h
    exact walk_mem' hW hi hw 48 k hg h
theorem union_two (w : World) (s t : Nat) (hs : s < 281474976710656) (ht : t < 281474976710656) :
    Calls Tryd.prog 37 #[.slice (some ⟨w.heap.size, 0, none⟩) 2 2] (w.alloc (.cells #[.int .u64 s, .int .u64 t] 38)) fun e w' => e = .returned (.int .u64 (unionF [s, t])) ∧ w.alloc (.cells #[.int .u64 s, .int .u64 t] 38) = w' :=
  crew_union (some ⟨w.heap.size, 0, none⟩) 2 [s, t] _ (by simp) (by simp; omega) (Rd.of_blk (Blk.made w 38 #[.int .u64 s, .int .u64 t]) 0 (by simp) (by
    intro i hi
    match i, hi with
    | 0, _ => rfl
    | 1, _ => rfl))
theorem bitsL_kids {p : List Int} (h48 : p.length ≤ 48) {i : Int} {s : Nat} (h : ∀ j, s.testBit j = decide (j ∈ kidsL p i)) : bitsL s = kidsL p i := by
  unfold bitsL kidsL
  have e : (List.range 48).filter (fun j => s.testBit j) = (List.range (p.length + (48 - p.length))).filter (fun j => s.testBit j) := by rw [show p.length + (48 - p.length) = 48 by omega]
  rw [e, List.range_add, List.filter_append]
  have e2 : ((List.range (48 - p.length)).map (p.length + ·)).filter (fun j => s.testBit j) = [] := by
    rw [List.filter_eq_nil_iff]
    intro a ha
    obtain ⟨b, hb, rfl⟩ := List.mem_map.1 ha
    rw [h]
    intro k
    have := (kidsL_mem.1 (of_decide_eq_true k)).1
    omega
  rw [e2, List.append_nil]
  refine List.filter_congr fun j hj => ?_
  have hj := List.mem_range.1 hj
  rw [h, decide_eq_decide, kidsL_mem]
  exact ⟨fun k => k.2, fun k => ⟨hj, k⟩⟩

theorem intN_get (l : List Nat) (m : Nat) (h : m < (intN l).length) (h' : m < l.length) : (intN l)[m] = (l[m] : Int) := by simp [intN]
set_option maxRecDepth 100000 in
set_option maxHeartbeats 4000000 in
theorem groveLaws_walk (A : Option Addr) (n c : Nat) (p : List Int) (i k : Int) (w : World) (hT : Tz w) (hl : p.length = n) (hnc : n ≤ c) (hc : c ≤ maxLen) (hr : Rd w A n 1 (fun i => .int .i64 (p.getD i 0))) (_hw : ∀ x ∈ p, (Lit.int .i64 x).wf = true)
    (_hi : -9223372036854775808 ≤ i ∧ i ≤ 9223372036854775807) (_hk : -9223372036854775808 ≤ k ∧ k ≤ 9223372036854775807) :
    Calls Tryd.prog 6 #[.slice A n c, .int .i64 i, .int .i64 k] w fun e w' => e = .returned (.bool true) ∧ Below w.heap.size w w' := by
  subst hl
  by_cases h100 : p.length ≤ 100
  · have c1 := hide (fun (W : World) (h : Below w.heap.size w W) => grove_order A c p W (hr.of_below (Nat.le_refl _) h) (by omega) (hT.of_below (Nat.le_refl _) h))
    have c2 := hide (fun (W : World) (h : Below w.heap.size w W) => grove_right A c p W (hr.of_below (Nat.le_refl _) h) (by omega))
    have hal := hide (fun (W : World) (h : Below w.heap.size w W) => alive28 W (hT.of_below (Nat.le_refl _) h))
    unfold orderF treeE at c1
    cases hb : rightF p
    · rw [hb] at c1 c2
      simp only [Bool.false_eq_true, if_false] at c1
      obtain ⟨n, hn⟩ : ∃ n, Hid (p.length = n) := ⟨_, rfl⟩
      rw [hn.out] at h100 hnc c1 c2 ⊢
      clear hr hT
      go_enter Tryd.func6, Tryd.ntmps6
      go_wp2_with fail
      refine (c1.out w (Below.refl _ _)).mono ?_
      rintro e w1 ⟨v1, rfl, _, hb1⟩
      have k1 := hide hb1
      clear hb1
      go_wp2_with fail
      refine (c2.out w1 k1.out).mono ?_
      rintro e w2 ⟨rfl, hb2⟩
      have k2 := hide (bthen k1.out hb2)
      clear hb2
      go_wp2_with fail
      refine (hal.out w2 k2.out).mono ?_
      rintro e w3 ⟨rfl, hb3⟩
      have k3 := hide (bthen k2.out hb3)
      go_wp2_with fail
      go_ret
      exact ⟨rfl, k3.out⟩
    · rw [hb] at c1 c2
      simp only [if_true] at c1
      obtain ⟨hWy, _, h48, hro⟩ := ways_of_right hb
      obtain ⟨o, ho⟩ : ∃ o, Hid (walkF p 48 (rootK p) = o) := ⟨_, rfl⟩
      have f1 := hide (fun (s : Nat) (hs : SetOf o s) => order_end hb (s := s) (by rw [ho.out]; exact hs))
      have hol : o.length = p.length := by rw [← ho.out]; exact (nodup_card _ _ (walk_nodup hWy 48 (rootK p) (first_root hro).1 (hgt_of_ways hWy (first_root hro).1).1) (order_mem hb))
      rw [ho.out] at c1
      have f2 := hide (fun (m : Nat) (h : m < o.length) (s t : Nat) (hs : SetOf (o.take m) s) (ht : SetOf (walkF p 48 o[m]) t) => order_round hb ho.out m h s t hs ht)
      have f3 := hide (fun (x : Nat) (hx : x < p.length) (W : World) (h : Below w.heap.size w W) => below_right A c p hb x hx W (hr.of_below (Nat.le_refl _) h) (hT.of_below (Nat.le_refl _) h))
      have hox : Hid (∀ (m : Nat) (h : m < o.length), o[m] < p.length) := fun m h => (order_mem hb _).1 (by rw [ho.out]; exact List.getElem_mem h)
      have c3 := hide (fun (W : World) (h : Below w.heap.size w W) => grove_way A c p i W (hr.of_below (Nat.le_refl _) h) (by omega))
      have c4 := hide (fun (W : World) (h : Below w.heap.size w W) => grove_below A c p k W (hr.of_below (Nat.le_refl _) h) (by omega) (hT.of_below (Nat.le_refl _) h))
      have c5 := hide (fun (W : World) (h : Below w.heap.size w W) => grove_kids2 A c p k W (hr.of_below (Nat.le_refl _) h) (by omega))
      have f4 : Hid (wrongF p i = 0 → wrongF p k = 0 → ∃ i' k' : Nat, i = (i' : Int) ∧ k = (k' : Int) ∧ k' < p.length ∧ (∀ s, BelF p k s → SetOf (walkF p 48 k') s ∧ hasF (s : Int) i = decide (k ∈ wayV p i)) ∧
          (∀ s : Nat, (∀ j, s.testBit j = (decide (wrongF p k = 0) && decide (j ∈ kidsL p k))) → bitsL s = kidsL p k) ∧
          (∀ (m : Nat) (h : m < (kidsL p k).length) (s t : Nat), SetOf (k' :: ((kidsL p k).take m).flatMap (walkF p 48)) s → SetOf (walkF p 48 (kidsL p k)[m]) t → apartF (t : Int) (s : Int) = true ∧ SetOf (k' :: ((kidsL p k).take (m + 1)).flatMap (walkF p 48)) (unionF [s, t])) ∧
          (∀ s t : Nat, SetOf (k' :: (kidsL p k).flatMap (walkF p 48)) s → SetOf (walkF p 48 k') t → s = t)) := fun h1 h2 => by
        obtain ⟨_, hi0, hi9⟩ := wrong_ok h1
        obtain ⟨_, hk0, hk9⟩ := wrong_ok h2
        obtain ⟨i', rfl⟩ := Int.eq_ofNat_of_zero_le hi0
        obtain ⟨k', rfl⟩ := Int.eq_ofNat_of_zero_le hk0
        have hk : k' < p.length := by omega
        refine ⟨i', k', rfl, rfl, hk, fun s hs => ?_, fun s hs => bitsL_kids h48 fun j => by rw [hs, decide_eq_true h2, Bool.true_and], fun m h s t => kid_round hWy h48 hk rfl m h s t, fun s t => kids_end hWy hk⟩
        have hs' : SetOf (walkF p 48 k') s := ⟨hs.1, fun j => by rw [hs.2, decide_eq_true h2, Bool.true_and, Int.toNat_natCast]⟩
        exact ⟨hs', onway hb (by omega) hk hs'⟩
      have hkx : Hid (∀ (m : Nat) (h : m < (kidsL p k).length), (kidsL p k)[m] < p.length) := fun m h => (kidsL_mem.1 (List.getElem_mem h)).1
      have hkn : (kidsL p k).length ≤ 48 := by
        unfold kidsL
        exact Nat.le_trans (List.length_filter_le _ _) (by simp; omega)
      have hyl : (wayV p i).length ≤ 48 := by
        unfold wayV
        split
        · cases h : upF p 48 i with
          | none => simp
          | some v => exact (upF_length h).2.2.1
        · simp
      have hlen : (intN o).length = p.length := by rw [intN_length]; exact hol
      replace hol := hide hol
      replace hlen := hide hlen
      obtain ⟨n, hn⟩ : ∃ n, Hid (p.length = n) := ⟨_, rfl⟩
      rw [hn.out] at h100 hnc hol hlen h48 c1 c2 c3 c4 c5 f1 f3 hox f4 hkx ⊢
      clear hr hT hro hWy hb ho
      go_enter Tryd.func6, Tryd.ntmps6
      go_wp2_with fail
      refine (c1.out w (Below.refl _ _)).mono ?_
      rintro e w1 ⟨v1, rfl, hv1, hb1⟩
      obtain ⟨A1, c1', rfl, _, _, _, hr1⟩ := hv1
      have k1 := hide hb1
      have hr1 := hide hr1
      rw [hlen.out]
      clear hb1 c1 c2
      go_wp2_with fail
      go_loopw [9, 46] (fun seen idx wr => ∃ (m s : Nat), seen = .int .u64 s ∧ idx = .int .i64 m ∧ m ≤ n ∧ Hid (SetOf (o.take m) s) ∧ Below w1.heap.size w1 wr) (fun _ idx _ => n - (intOf idx).toNat)
      case atStart => exact ⟨0, 0, rfl, rfl, Nat.zero_le _, SetOf.nil, Below.refl _ _⟩
      case round =>
        obtain ⟨m, s, rfl, rfl, hm, hs, hbel⟩ := hrel
        have hbw := hide (bthen k1.out hbel)
        by_cases hlt : m < n
        · have hmo : m < o.length := by rw [hol.out]; exact hlt
          have hmi : m < (intN o).length := by rw [hlen.out]; exact hlt
          obtain ⟨b, off, rfl, hb, hc⟩ := it_at (hr1.out.of_below (Nat.le_refl _) hbel) hmi
          rw [intN_get o m hmi hmo] at hc
          have hxn := hox.out m hmo
          have g2 := f2.out m hmo s
          have g3 := f3.out o[m] hxn wr hbw.out
          have hs' := hs.out
          have hs1 := hs'.1
          generalize o[m] = x at *
          have g2 := hide g2
          have g3 := hide g3
          have hs' := hide hs'
          have hbel := hide hbel
          clear f2 f3 hs
          go_wp2_with fail
          refine g3.out.mono ?_
          rintro e w2 ⟨⟨t, rfl, ht⟩, hb2⟩
          obtain ⟨q1, ⟨cc, q0⟩, q2, u, q3, hu⟩ := g2.out t hs'.out ht
          have ht1 := ht.1
          have a1 := fun W => crew_has (s : Int) (x : Int) W (by omega) (by omega)
          have a2 := fun W => crew_less t (x : Int) W (by omega)
          have a3 := fun W => crew_within (lessF (t : Int) (x : Int)) (s : Int) W
          have a4 := fun W => crew_with (s : Int) (x : Int) W (by omega) (by omega)
          rw [q1] at a1
          rw [q2] at a3
          rw [q3] at a4
          rw [q0] at a2 a3
          clear q0 q1 q2 q3
          have a1 := hide a1
          have a2 := hide a2
          have a3 := hide a3
          have a4 := hide a4
          have hb2 := hide hb2
          have hu := hide hu
          clear ht g2 g3
          go_wp2_with (first
            | (go_at_call 30; refine (a1.out _).mono ?_; rintro e w3 ⟨rfl, rfl⟩)
            | (go_at_call 31; refine (a2.out _).mono ?_; rintro e w3 ⟨rfl, rfl⟩)
            | (go_at_call 32; refine (a3.out _).mono ?_; rintro e w3 ⟨rfl, rfl⟩)
            | (go_at_call 33; refine (a4.out _).mono ?_; rintro e w3 ⟨rfl, rfl⟩))
          go_roundw
          case rel => exact ⟨m + 1, u, rfl, by go_num, by omega, hu, bthen hbel.out hb2.out⟩
          case measure => simp [intOf]; omega
        · obtain rfl : m = n := by omega
          have hs' : SetOf o s := by have := hs.out; rwa [List.take_of_length_le (by rw [hol.out]; exact Nat.le_refl _)] at this
          obtain ⟨e1, e2⟩ := f1.out s hs'
          have hs1 := hs'.1
          have a5 := hide (fun W => crew_len s (by omega) W)
          rw [e1] at a5
          have hmm : ((m : Int) == (m : Int)) = true := by simp
          have hbel := hide hbel
          have hmm2 : ((m : Int) != (m : Int)) = false := by simp
          clear e1 e2 hs hs' f1 f2
          by_cases hi : wrongF p i = 0
          · by_cases hk : wrongF p k = 0
            · obtain ⟨i', k', rfl, rfl, hk9, g1, g2, g3, g4⟩ := f4.out hi hk
              have g1 := hide g1
              have g2 := hide g2
              have g3 := hide g3
              have g4 := hide g4
              rw [hi] at c3
              rw [hk] at c4 c5
              rw [hk] at g2
              generalize BelF p (k' : Int) = Bl at *
              generalize wayV p (i' : Int) = Y at *
              generalize kidsL p (k' : Int) = K at *
              obtain ⟨y, hy⟩ : ∃ y, Hid (Y.length = y) := ⟨_, rfl⟩
              obtain ⟨kn, hkl⟩ : ∃ kn, Hid (K.length = kn) := ⟨_, rfl⟩
              rw [hy.out] at hyl
              rw [hkl.out] at hkn
              clear hi hk f4
              go_wp2_with (go_at_call 34; refine (a5.out _).mono ?_; rintro e w3 ⟨rfl, rfl⟩)
              refine (c3.out _ hbw.out).mono ?_
              rintro e w4 ⟨v4, rfl, hv4, hb4⟩
              have k4 := hide (bthen hbw.out hb4)
              obtain ⟨A4, c4', rfl, _, _, _, hr4⟩ := hv4
              rw [hy.out]
              have hr4 := hide hr4
              clear hb4 a5
              go_wp2_with fail
              refine (c4.out w4 k4.out).mono ?_
              rintro e w5 ⟨⟨s5, rfl, hs5⟩, hb5⟩
              have k5 := hide (bthen k4.out hb5)
              have hr5 := hide (hr4.out.of_below (Nat.le_refl _) hb5)
              obtain ⟨hs5, hon⟩ := g1.out s5 hs5
              have hs51 := hs5.1
              have hs5 := hide hs5
              have hon := hide hon
              clear hb5 hr4
              go_wp2_with fail
              go_loopw [17, 108] (fun on idx wq => ∃ (m : Nat) (b : Bool), on = .bool b ∧ idx = .int .i64 m ∧ m ≤ y ∧ Hid (b = decide ((k' : Int) ∈ Y.take m)) ∧ wq = w5) (fun _ idx _ => y - (intOf idx).toNat)
              case atStart => exact ⟨0, false, rfl, rfl, Nat.zero_le _, by show _ = _; simp, rfl⟩
              case round =>
                obtain ⟨m2, b2, rfl, rfl, hm2, hb2, hwq⟩ := hrel
                subst hwq
                by_cases hlt2 : m2 < y
                · have hmY : m2 < Y.length := by rw [hy.out]; exact hlt2
                  obtain ⟨b, off, rfl, hb, hc⟩ := it_at hr5.out hmY
                  have htk : Hid (Y.take (m2 + 1) = Y.take m2 ++ [Y[m2]]) := List.take_succ_eq_append_getElem hmY
                  generalize Y[m2] = yy at *
                  by_cases hyk : yy = (k' : Int)
                  · subst hyk
                    have hnew : Hid (true = decide ((k' : Int) ∈ Y.take (m2 + 1))) := by show _ = _; rw [htk.out]; simp
                    have hkk : ((k' : Int) == (k' : Int)) = true := by simp
                    clear htk hb2
                    cases b2
                    all_goals
                      go_wp2_with fail
                      go_roundw
                      case rel => exact ⟨m2 + 1, true, rfl, by go_num, by omega, hnew, by first | exact rfl | trivial⟩
                      case measure => simp [intOf]; omega
                  · have hnew : Hid (b2 = decide ((k' : Int) ∈ Y.take (m2 + 1))) := by show _ = _; rw [htk.out, hb2.out]; simp [Ne.symm hyk]
                    have hkk : (yy == (k' : Int)) = false := by simpa using hyk
                    clear htk hb2 hyk
                    cases b2
                    all_goals
                      go_wp2_with fail
                      go_roundw
                      case rel => exact ⟨m2 + 1, _, rfl, by go_num, by omega, hnew, by first | exact rfl | trivial⟩
                      case measure => simp [intOf]; omega
                · obtain rfl : m2 = y := by omega
                  have hb2' : Hid (hasF (s5 : Int) (i' : Int) = b2) := by show _ = _; rw [hon.out, hb2.out, List.take_of_length_le (by rw [hy.out]; exact Nat.le_refl _)]
                  have hbb : (b2 == b2) = true := by simp
                  have a6 := hide (fun W => crew_has (s5 : Int) (i' : Int) W (by omega) (by omega))
                  rw [hb2'.out] at a6
                  have a7 := fun W => crew_with 0 (k' : Int) W (by omega) (by omega)
                  obtain ⟨u0, hu0, hu1⟩ := SetOf.nil.with (show k' < 48 by omega)
                  rw [show ((0 : Nat) : Int) = 0 from rfl] at hu0
                  rw [hu0] at a7
                  have a7 := hide a7
                  have hu1 : Hid (SetOf (k' :: (K.take 0).flatMap (walkF p 48)) u0) := by show SetOf _ _; simpa using hu1
                  clear hb2 hb2' hon hu0 hr5 c3 c4
                  go_wp2_with fail
                  refine (c5.out _ k5.out).mono ?_
                  rintro e w6 ⟨⟨s6, rfl, hs60, hs6⟩, hb6⟩
                  have k6 := hide (bthen k5.out hb6)
                  have hbi := g2.out s6 hs6
                  have a8 := hide (fun W => ref27_list s6 (by omega) W)
                  rw [hbi] at a8
                  clear hb6 hs6 hbi
                  go_wp2_with (first
                    | (go_at_call 33; refine (a7.out _).mono ?_; rintro e w7 ⟨rfl, rfl⟩)
                    | (go_at_call 35; refine (a8.out _).mono ?_; rintro e w7 ⟨v7, rfl, ⟨A7, c7', rfl, _, _, _, hr7⟩, hb7⟩; rw [intN_length, hkl.out]; have k7 := hide (bthen k6.out hb7); have hr7 := hide hr7; clear hb7))
                  go_loopw [22, 130] (fun sum idx wr => ∃ (m s : Nat), sum = .int .u64 s ∧ idx = .int .i64 m ∧ m ≤ kn ∧ Hid (SetOf (k' :: (K.take m).flatMap (walkF p 48)) s) ∧ Below w7.heap.size w7 wr) (fun _ idx _ => kn - (intOf idx).toNat)
                  case atStart => exact ⟨0, u0, rfl, rfl, Nat.zero_le _, hu1.out, Below.refl _ _⟩
                  case round =>
                    obtain ⟨m3, s3, rfl, rfl, hm3, hs3, hbel3⟩ := hrel
                    have hbw3 := hide (bthen k7.out hbel3)
                    by_cases hlt3 : m3 < kn
                    · have hmK : m3 < K.length := by rw [hkl.out]; exact hlt3
                      have hmi : m3 < (intN K).length := by rw [intN_length]; exact hmK
                      obtain ⟨b, off, rfl, hb, hc⟩ := it_at (hr7.out.of_below (Nat.le_refl _) hbel3) hmi
                      rw [intN_get K m3 hmi hmK] at hc
                      have hxn := hkx.out m3 hmK
                      have q2 := g3.out m3 hmK s3
                      have q3 := f3.out K[m3] hxn _ hbw3.out
                      have hs31 := hs3.out.1
                      generalize K[m3] = x at *
                      have q2 := hide q2
                      have q3 := hide q3
                      have hbel3 := hide hbel3
                      clear g3 f3 hal a6 g4
                      go_wp2_with fail
                      refine q3.out.mono ?_
                      rintro e w8 ⟨⟨t, rfl, ht⟩, hb8⟩
                      obtain ⟨h1, h2⟩ := q2.out t hs3.out ht
                      have a1 := fun W => crew_apart (t : Int) (s3 : Int) W
                      rw [h1] at a1
                      have ht1 := ht.1
                      have a2 := fun W => union_two W s3 t (by omega) (by omega)
                      generalize unionF [s3, t] = u at *
                      have a1 := hide a1
                      have a2 := hide a2
                      have h2 := hide h2
                      have hb8 := hide hb8
                      clear q2 q3 ht h1 hs3
                      go_wp2_with (first
                        | (go_at_call 36; refine (a1.out _).mono ?_; rintro e w9 ⟨rfl, rfl⟩)
                        | (go_at_call 37; refine (a2.out _).mono ?_; rintro e w9 ⟨rfl, rfl⟩))
                      go_roundw
                      case rel => exact ⟨m3 + 1, u, rfl, by go_num, by omega, h2, bthen hbel3.out (bthen hb8.out (balloc0 _ _))⟩
                      case measure => simp [intOf]; omega
                    · obtain rfl : m3 = kn := by omega
                      have hse : s3 = s5 := g4.out s3 s5 (by have := hs3.out; rwa [List.take_of_length_le (by rw [hkl.out]; exact Nat.le_refl _)] at this) hs5.out
                      subst hse
                      have hss : ((s3 : Int) == (s3 : Int)) = true := by simp
                      clear hs3 hs5 g1 g2 g3 g4 hu1
                      go_wp2_with (first
                        | (go_at_call 30; refine (a6.out _).mono ?_; rintro e w9 ⟨rfl, rfl⟩)
                        | (go_at_call 11; refine (hal.out _ hbw3.out).mono ?_; rintro e w9 ⟨rfl, hb9⟩; have k9 := hide (bthen hbw3.out hb9); clear hb9))
                      go_ret
                      exact ⟨rfl, k9.out⟩
            · obtain ⟨q, hq⟩ : ∃ q, Hid (wrongF p k = q) := ⟨_, rfl⟩
              rw [hq.out] at c4 hk
              rw [hi] at c3
              have h1 : (q == 0) = false := by simpa using hk
              have h2 : (q != 0) = true := by simpa using hk
              clear f4 c5 hi hq
              go_wp2_with (go_at_call 34; refine (a5.out _).mono ?_; rintro e w3 ⟨rfl, rfl⟩)
              refine (c3.out _ hbw.out).mono ?_
              rintro e w4 ⟨v4, rfl, _, hb4⟩
              have k4 := hide (bthen hbw.out hb4)
              clear hb4
              go_wp2_with fail
              refine (c4.out w4 k4.out).mono ?_
              rintro e w5 ⟨⟨s5, rfl, _⟩, hb5⟩
              have k5 := hide (bthen k4.out hb5)
              clear hb5
              go_wp2_with fail
              refine (hal.out w5 k5.out).mono ?_
              rintro e w6 ⟨rfl, hb6⟩
              have k6 := hide (bthen k5.out hb6)
              go_wp2_with fail
              go_ret
              exact ⟨rfl, k6.out⟩
          · obtain ⟨q, hq⟩ : ∃ q, Hid (wrongF p i = q) := ⟨_, rfl⟩
            rw [hq.out] at c3 hi
            have h1 : (q == 0) = false := by simpa using hi
            have h2 : (q != 0) = true := by simpa using hi
            clear f4 c5 hq
            generalize wrongF p k = r at c4
            go_wp2_with (go_at_call 34; refine (a5.out _).mono ?_; rintro e w3 ⟨rfl, rfl⟩)
            refine (c3.out _ hbw.out).mono ?_
            rintro e w4 ⟨v4, rfl, _, hb4⟩
            have k4 := hide (bthen hbw.out hb4)
            clear hb4
            go_wp2_with fail
            refine (c4.out w4 k4.out).mono ?_
            rintro e w5 ⟨⟨s5, rfl, _⟩, hb5⟩
            have k5 := hide (bthen k4.out hb5)
            clear hb5
            go_wp2_with fail
            refine (hal.out w5 k5.out).mono ?_
            rintro e w6 ⟨rfl, hb6⟩
            have k6 := hide (bthen k5.out hb6)
            go_wp2_with fail
            go_ret
            exact ⟨rfl, k6.out⟩
  · have c9 := hide (alive28 w hT)
    obtain ⟨n, hn⟩ : ∃ n, Hid (p.length = n) := ⟨_, rfl⟩
    rw [hn.out] at h100 hnc ⊢
    clear hr
    unfold maxLen at hc
    go_enter Tryd.func6, Tryd.ntmps6
    go_wp2_with fail
    refine c9.out.mono ?_
    rintro e w3 ⟨rfl, hb3⟩
    go_wp2_with fail
    go_ret
    exact ⟨rfl, hb3⟩
end Go.Proofs.YtcpakoobgcdekaaDoor
