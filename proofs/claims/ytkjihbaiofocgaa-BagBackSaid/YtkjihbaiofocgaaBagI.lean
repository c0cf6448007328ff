/- Layer 10: one bag to which another one comes; a bag's image. By the prover of this repo. -/
import Derived.Test.YtkjihbaiofocgaaBagE
import Derived.Test.YtkjihbaiofocgaaBagU
import Derived.Test.YtkjihbaiofocgaaBagN
namespace Go.Proofs.Ytkjihbaiofocgaa
open Go.RowKit
open TwigM BagM

theorem putAll_nil (l : List Rg) : putAll l [] = l := rfl
theorem putAll_cons (l : List Rg) (p : Rg) (r : List Rg) : putAll l (p :: r) = putAll (put p.1 p.2 l) r := rfl
theorem bagged_below {w w' : World} {g : Nat} {L : Int} {l : List Rg} {v : Value} (h : BagAt w g L l v) (hb : Below w.heap.size w w') : Bagged w g L l v w' := ⟨v, h.kept hb, Below.turn hb _, fun _ h => .inl h⟩

theorem own_at {w : World} {base : Nat} {v : Value} {l : List Rg} (h : w.ownsRow base 31 2 v l.length (ndv l)) {i : Nat} (hi : i < l.length) :
    ∃ b c, v = .slice (some ⟨b, 0, none⟩) l.length c ∧ b < w.heap.size ∧ w.cell? ⟨b, i * 2, none⟩ = some (.int .i64 l[i].1) ∧ w.cell? ⟨b, i * 2 + 1, none⟩ = some (.int .i64 l[i].2) := by
  rcases h.2 with ⟨rfl, h0⟩ | ⟨b, cap, cur, rfl, _⟩
  · omega
  · refine ⟨b, cap, rfl, (h.lt b rfl).2, ?_, ?_⟩
    · rw [h.cellAt (i * 2) (by omega), ndv_get l _ (by omega)]
      have h1 : i * 2 % 2 = 0 := by omega
      have h2 : i * 2 / 2 = i := by omega
      simp [ndc, hi]
    · rw [h.cellAt (i * 2 + 1) (by omega), ndv_get l _ (by omega)]
      have h1 : (i * 2 + 1) % 2 = 1 := by omega
      have h2 : (i * 2 + 1) / 2 = i := by omega
      simp [ndc, h1, h2, hi]

/-- What a round of the pouring holds. -/
def PourRel (w : World) (g : Nat) (L : Int) (v : Value) (r : List Rg) (u : Value) (n : Nat) (G : List Rg) (k : Value) (wr : World) : Prop :=
  ∃ (i : Nat) (l' : List Rg) (v' : Value), i ≤ n ∧ k = .int .i64 i ∧ BagAt wr g L l' v' ∧ Ok l' ∧ l'.length ≤ 500 + i ∧ Hid (putAll l' (r.drop i) = G) ∧ tot l' + tot (r.drop i) ≤ 72057594037927935 ∧ Turn (Foot g v) w wr ∧
    (∀ j, v'.ownBlock = some j → v.ownBlock = some j ∨ w.heap.size ≤ j) ∧ wr.ownsRow w.heap.size 31 2 u r.length (ndv r) ∧ ∀ j, u.ownBlock = some j → ¬ Foot g v' j

set_option maxRecDepth 100000 in
set_option maxHeartbeats 4000000 in
theorem pour_c (g g2 : Nat) (L M : Int) (l r : List Rg) (v v2 : Value) (w : World) (h : BagAt w g L l v) (h2 : BagAt w g2 M r v2) (ho : Ok l) (hr : Ok r) (hl : l.length ≤ 500) (hrl : r.length ≤ 500) :
    Calls Try.prog 24 #[.pointer (some ⟨g, 0, none⟩), .pointer (some ⟨g2, 0, none⟩)] w fun e w' => e = .returned (.int .i64 (pourF L M l r).2) ∧ Bagged w g L (pourF L M l r).1 v w' := by
  obtain ⟨c0, -, -, -, -, hg⟩ := bag_cells h
  obtain ⟨d0, d1, -, -, -, hg2⟩ := bag_cells h2
  have hroom := fun q : Nat => room_c (tot r) g L l v (w.drewN q) (h.kept (below_drewN (Below.refl _ _) q)) ho ⟨tot_nonneg r hr.pos, by have := hr.most; omega⟩
  have hitems := fun q : Nat => items_c g2 M _ r v2 (w.drewN q) (h2.kept (below_drewN (Below.refl _ _) q)) (by omega)
  have hsame := hide (fun q : Nat => bagged_below h (below_drewN (Below.refl _ _) q))
  by_cases hLM : L = M
  · subst hLM
    by_cases hfull : 72057594037927935 - tot l < tot r
    · have hF : Hid (pourF L L l r = (l, 5)) := by show _ = _; unfold pourF; rw [if_neg (by simp), if_pos hfull]
      rw [hF.out]
      rw [decide_eq_false (by omega)] at hroom
      replace hroom := hide hroom
      clear h h2 ho hr hitems hfull
      generalize tot r = tr at *
      go_enter Try.func24, Try.ntmps24
      go_wp2_with fail
      go_quiet (fail)
      go_wp2_with (go_at_call 39; refine (hroom.out _).mono ?_; rintro e w1 ⟨rfl, rfl⟩)
      go_ret
      exact ⟨rfl, hsame.out _⟩
    · have hF : Hid (pourF L L l r = (putAll l r, 0)) := by show _ = _; unfold pourF; rw [if_neg (by simp), if_neg hfull]
      rw [hF.out]
      rw [decide_eq_true (by omega)] at hroom
      have hsum : Hid (tot l + tot r ≤ 72057594037927935) := by show _ ≤ _; omega
      have hoh := hide ho
      have hrp := hide hr.pos
      have hrt := hide (fun p hp => tot_le r hr.pos p hp)
      have htl := hide (tot_nonneg l ho.pos)
      have hh := hide h
      replace hroom := hide hroom
      replace hitems := hide hitems
      obtain ⟨n, hn⟩ : ∃ n, Hid (r.length = n) := ⟨_, rfl⟩
      rw [hn.out] at hrl
      clear h h2 ho hr hfull
      obtain ⟨tr, htr⟩ : ∃ tr, tot r = tr := ⟨_, rfl⟩
      rw [htr] at d1 hroom
      replace htr := hide htr
      go_enter Try.func24, Try.ntmps24
      go_wp2_with fail
      go_quiet (fail)
      go_wp2_with (first
        | (go_at_call 39; refine (hroom.out _).mono ?_; rintro e w1 ⟨rfl, rfl⟩)
        | (go_at_call 33; refine (hitems.out _).mono ?_; rintro e w1 ⟨u, rfl, how, hb1⟩; rw [hn.out] at how; obtain ⟨A9, c9, rfl, hA9, hc9, hm9⟩ := own_form how))
      have hb2 : Below w.heap.size w w1 := (below_drewN (Below.refl _ _) _).trans hb1
      have how' : w1.ownsRow w.heap.size 31 2 (.slice A9 n c9) r.length (ndv r) := by rw [hn.out]; exact how
      have hG : Hid (putAll l r = putAll l r) := rfl
      have hdis : ∀ j, (Value.slice A9 n c9).ownBlock = some j → ¬ Foot g v j := fun j hj e => by
        have k1 := (how'.lt j hj).1
        have k2 := hh.out.lt j e
        omega
      have hstart : Hid (PourRel w g L v r (.slice A9 n c9) n (putAll l r) (.int .i64 0) w1) :=
        ⟨0, l, v, by omega, rfl, hh.out.kept hb2, hoh.out, by omega, by show _ = _; rw [List.drop_zero], by rw [List.drop_zero]; exact hsum.out, Below.turn hb2 _, fun j hj => .inl hj, how', hdis⟩
      clear how how' hdis hroom hitems hb1 hA9 hc9 hm9
      go_loopw [35] (fun k wr => PourRel w g L v r (.slice A9 n c9) n (putAll l r) k wr) (fun k _ => n - (intOf k).toNat)
      case atStart => exact hstart.out
      case round =>
        obtain ⟨i, l', v', hi, rfl, hbag, hok, hlen, hgo, hs, htn, hfr, how, hdis⟩ := hrel
        by_cases hlt : i < n
        · have hil : i < r.length := by rw [hn.out]; exact hlt
          obtain ⟨b, c, he, hbl, q0, q1⟩ := own_at how hil
          have hp1 := hrp.out r[i] (List.getElem_mem hil)
          have hp2 := hrt.out r[i] (List.getElem_mem hil)
          have hrest := tot_nonneg (r.drop (i + 1)) fun p hp => hrp.out p (List.mem_of_mem_drop hp)
          rw [List.drop_eq_getElem_cons hil, tot] at hs
          rw [List.drop_eq_getElem_cons hil] at hgo
          generalize r[i] = p at *
          obtain ⟨x, y⟩ := p
          simp only at q0 q1 hp1 hp2 hs
          have hgo2 : Hid (putAll (put x y l') (r.drop (i + 1)) = putAll l r) := by show _ = _; rw [← hgo.out, putAll_cons]
          have hput := hide (put_c x y g L l' v' (wr.alloc (.cells #[.int .i64 x, .int .i64 y] 31)) (hbag.kept (balloc0 _ _)) hok (by omega) hp1 (by omega))
          have hok2 := hide (hok.put x y hp1 (by omega))
          have hln2 := hide (put_len x y l')
          have htp := hide (tot_put x y l')
          injection he with he1 he2 he3
          subst he1 he3
          have howh := hide how
          have hdish := hide hdis
          have hfrh := hide hfr
          have htnh := hide htn
          have hsh : Hid (tot l' + (y + tot (r.drop (i + 1))) ≤ 72057594037927935) := hs
          clear hbag hok how hdis hfr htn hgo hs he2
          go_wp2_with (go_at_call 40; refine hput.out.mono ?_; rintro e w5 ⟨⟨rr, rfl⟩, hbg⟩; replace hbg := hide hbg)
          obtain ⟨v5, hb5, ht5, hf5⟩ := hbg.out
          have hsz := htnh.out.size
          go_roundw
          case rel =>
            refine ⟨i + 1, put x y l', v5, by omega, by go_num, hb5, hok2.out, by have := hln2.out; omega, hgo2, by rw [htp.out]; have := hsh.out; omega, ?_, ?_, ?_, ?_⟩
            · refine (htnh.out.trans (Turn.alloc wr _ _) fun _ _ h => h).trans ht5 fun j hj e => ?_
              rcases e with e | e
              · exact .inl e
              · rcases hfrh.out j e with k | k
                · exact .inr k
                · omega
            · intro j hj
              rcases hf5 j hj with k | k
              · exact hfrh.out j k
              · simp only [World.size_alloc] at k; exact .inr (by omega)
            · exact own_turned (howh.out.alloc _) ht5 hdish.out
            · intro j hj e
              rcases e with e | e
              · exact hdish.out j hj (.inl e)
              · rcases hf5 j e with k | k
                · exact hdish.out j hj (.inr k)
                · have := (howh.out.lt j hj).2
                  simp only [World.size_alloc] at k
                  omega
          case measure => simp [intOf]; omega
        · have hres : Hid (l' = putAll l r) := by show _ = _; rw [← hgo.out, List.drop_of_length_le (by rw [hn.out]; omega), putAll_nil]
          have hend : Hid (Bagged w g L (putAll l r) v wr) := ⟨v', by rw [← hres.out]; exact hbag, htn, hfr⟩
          clear hbag hok how hdis hfr htn hgo hs
          go_wp2_with fail
          go_ret
          exact ⟨rfl, hend.out⟩
  · have hF : Hid (pourF L M l r = (l, 6)) := if_pos hLM
    rw [hF.out]
    have hne : (L != M) = true := by simpa using hLM
    clear h h2 ho hr hitems hroom hLM
    go_enter Try.func24, Try.ntmps24
    go_wp2_with fail
    go_quiet (fail)
    go_wp2_with fail
    go_ret
    exact ⟨rfl, hsame.out _⟩

theorem cut_nil (k : Int) : cut k [] = [] := rfl
theorem cut_cons (k : Int) (p : Rg) (r : List Rg) : cut k (p :: r) = (p.1 / pw k, p.2) :: cut k r := rfl
theorem cut_drop (k : Int) (r : List Rg) (i : Nat) : cut k (r.drop i) = (cut k r).drop i := by unfold cut; rw [List.map_drop]

/-- What a round of the image's making holds: the bag at g is left alone. -/
def ImgRel (w : World) (g : Nat) (L M k : Int) (r : List Rg) (v : Value) (o : Nat) (n : Nat) (G : List Rg) (kv : Value) (wr : World) : Prop :=
  ∃ (i : Nat) (l' : List Rg) (v' : Value), i ≤ n ∧ kv = .int .i64 i ∧ BagAt wr o M l' v' ∧ Ok l' ∧ l'.length ≤ i ∧ Hid (putAll l' (cut k (r.drop i)) = G) ∧ tot l' + tot (r.drop i) ≤ 72057594037927935 ∧ Below w.heap.size w wr ∧
    (∀ j, Foot o v' j → w.heap.size ≤ j)

set_option maxRecDepth 100000 in
theorem image_no (k : Int) (g : Nat) (L t : Int) (r : List Rg) (v : Value) (w : World) (h : BagT w g L t r v) (hk : k < 0 ∨ L ≤ k) :
    Calls Try.prog 22 #[.pointer (some ⟨g, 0, none⟩), .int .i64 k] w fun e w' => e = .returned (.tuple #[.pointer none, .int .i64 2]) ∧ w = w' := by
  obtain ⟨c0, -, -, -, -, hg⟩ := bag_cells h
  clear h
  by_cases h1 : k < 0
  · clear hk
    go_enter Try.func22, Try.ntmps22
    go_wp2_with fail
    go_ret2
    exact ⟨rfl, rfl⟩
  · have h2 : L ≤ k := by omega
    clear hk
    go_enter Try.func22, Try.ntmps22
    go_wp2_with fail
    go_ret2
    exact ⟨rfl, rfl⟩
set_option maxRecDepth 100000 in
set_option maxHeartbeats 4000000 in
theorem image_yes (k : Int) (g : Nat) (L : Int) (r : List Rg) (v : Value) (w : World) (h : BagAt w g L r v) (hr : Ok r) (hi0 : In L r) (hrl : r.length ≤ 500) (hL : 1 ≤ L ∧ L ≤ 48) (hk : 0 ≤ k ∧ k < L) :
    Calls Try.prog 22 #[.pointer (some ⟨g, 0, none⟩), .int .i64 k] w (Fresh w (L - k) (imageF k r)) := by
  obtain ⟨k0, k1⟩ := hk
  have hrp := hide hr.pos
  have hrt := hide (fun p hp => tot_le r hr.pos p hp)
  have hsum : Hid (tot r ≤ 72057594037927935) := hr.most
  have hin := hide hi0
  have hh := hide h
  have hat := hide (fun i (hi : i < r.length) => h.at hi)
  obtain ⟨c0, -, c2, -, -, hg⟩ := bag_cells h
  obtain ⟨A, c, rfl⟩ := h.form
  obtain ⟨n, hn⟩ : ∃ n, Hid (r.length = n) := ⟨_, rfl⟩
  rw [hn.out] at hrl c2
  have hLk : 0 < L - k := by omega
  have hLk2 : L - k ≤ 48 := by omega
  have hpw : (2 : Int) ^ k.toNat = pw k := rfl
  replace hpw := hide hpw
  clear h hr hi0
  go_enter Try.func22, Try.ntmps22
  go_wp2_with fail
  have hm := hide (bag_made w (L - k))
  go_loopw [36] (fun kv wr => ImgRel w g L (L - k) k r (.slice A n c) w.heap.size n (imageF k r) kv wr) (fun kv _ => n - (intOf kv).toNat)
  case atStart =>
    refine ⟨0, [], .slice none 0 0, by omega, rfl, hm.out, Ok.nil, by simp, by show _ = _; rw [List.drop_zero]; rfl, by rw [List.drop_zero]; have := hsum.out; simp [tot]; omega, balloc0 _ _, fun j hj => ?_⟩
    rcases hj with rfl | hj
    · omega
    · cases hj
  case round =>
    obtain ⟨i, l', v', hi, rfl, hbag, hok, hlen, hgo, hs, hbel, hfo⟩ := hrel
    have hbw := hh.out.kept hbel
    by_cases hlt : i < n
    · have hil : i < r.length := by rw [hn.out]; exact hlt
      obtain ⟨b, c', he, q0, q1⟩ := hbw.at hil
      rw [hn.out] at he
      have hp1 := hrp.out r[i] (List.getElem_mem hil)
      have hp2 := hrt.out r[i] (List.getElem_mem hil)
      have hp3 := hin.out r[i] (List.getElem_mem hil)
      have hrest := tot_nonneg (r.drop (i + 1)) fun p hp => hrp.out p (List.mem_of_mem_drop hp)
      rw [List.drop_eq_getElem_cons hil, tot] at hs
      rw [List.drop_eq_getElem_cons hil] at hgo
      generalize r[i] = p at *
      obtain ⟨x, y⟩ := p
      simp only at q0 q1 hp1 hp2 hs hp3
      have hgo2 : Hid (putAll (put (x / pw k) y l') (cut k (r.drop (i + 1))) = imageF k r) := by show _ = _; rw [← hgo.out, cut_cons, putAll_cons]
      obtain ⟨z, hz⟩ : ∃ z, z = x / pw k := ⟨_, rfl⟩
      rw [← hz] at hgo2
      replace hz := hide hz
      have hput := hide (fun q => put_c z y w.heap.size (L - k) l' v' ((wr.alloc (.cells #[.int .i64 x, .int .i64 y] 31)).drewN q) (hbag.kept (below_drewN (balloc0 _ _) q)) hok (by omega) hp1 (by omega))
      have hok2 := hide (hok.put z y hp1 (by omega))
      have hln2 := hide (put_len z y l')
      have htp := hide (tot_put z y l')
      have hlth := hide hbag.lt
      injection he with he1 he2 he3
      subst he1 he3
      have hbl := World.block_lt_of_cell? wr _ q0
      simp only at hbl
      have hfoh := hide hfo
      have hsh : Hid (tot l' + (y + tot (r.drop (i + 1))) ≤ 72057594037927935) := hs
      clear hbag hok hfo hgo hs hbw
      go_wp2_with fail
      refine wp_still_tail 7 (by kernel_rfl) (by kernel_rfl) ?_
      intro V hV
      have hbx : Blk V wr.heap.size 31 #[.int .i64 x, .int .i64 y] := by rw [hV]; exact Blk.made wr _ _
      have e0 : V.cell? ⟨wr.heap.size, 0, none⟩ = some (.int .i64 x) := by rw [hbx.cell]; rfl
      have e1 : V.cell? ⟨wr.heap.size, 1, none⟩ = some (.int .i64 y) := by rw [hbx.cell]; rfl
      have e2 := hbx.lt
      have hputV : Hid (Calls Try.prog 40 #[.pointer (some ⟨w.heap.size, 0, none⟩), .int .i64 z, .int .i64 y] V fun e w' => (∃ r, e = .returned r) ∧ Bagged V w.heap.size (L - k) (put z y l') v' w') := by rw [hV]; exact hput.out 1
      have hVs : V.heap.size = wr.heap.size + 1 := by rw [hV]; simp
      have hVs := hide hVs
      have hbelV : Hid (Below w.heap.size w V) := by show Below _ _ _; rw [hV]; exact below_drewN (balloc hbel _) 1
      clear hV hbx
      simp only [List.take_succ_cons, List.take_zero, List.drop_succ_cons, List.drop_zero]
      repeat still_step
      refine wpStill_nil ?_
      rw [show x / 2 ^ k.toNat = z from hz.out.symm]
      clear hput
      go_wp2_with (go_at_call 40; refine hputV.out.mono ?_; rintro e w5 ⟨⟨rr, rfl⟩, hbg⟩; replace hbg := hide hbg)
      obtain ⟨v5, hb5, ht5, hf5⟩ := hbg.out
      have hwsz := hbel.size
      go_roundw
      case rel =>
        refine ⟨i + 1, put z y l', v5, by omega, by go_num, hb5, hok2.out, by have := hln2.out; omega, hgo2, by rw [htp.out]; have := hsh.out; omega, ?_, ?_⟩
        · refine hbelV.out.trans (ht5.below w.heap.size (by have := hbelV.out.size; exact this) fun j hj e => ?_)
          have := hfoh.out j e
          omega
        · intro j hj
          rcases hj with rfl | hj
          · exact Nat.le_refl _
          · rcases hf5 j hj with e | e
            · exact hfoh.out j (.inr e)
            · have := hVs.out; omega
      case measure => simp [intOf]; omega
    · have hres : Hid (l' = imageF k r) := by show _ = _; rw [← hgo.out, List.drop_of_length_le (by rw [hn.out]; omega), cut_nil, putAll_nil]
      have hend : Hid (BagAt wr w.heap.size (L - k) (imageF k r) v') := by show BagT _ _ _ _ _ _; rw [← hres.out]; exact hbag
      have hfoh := hide hfo
      clear hbag hok hfo hgo hs hbw
      go_wp2_with fail
      go_ret2
      exact ⟨_, _, rfl, hend.out, hbel, hfoh.out⟩
end Go.Proofs.Ytkjihbaiofocgaa
