/- Commands of words: line.read walked. By the prover of this repo. -/
import Derived.Test.YtcpakoobgcdekaaDoorLineJ
import Derived.Laws.ResultCell
import Derived.Laws.Rows
import Derived.RangeFuncBox
namespace Go.Proofs.YtcpakoobgcdekaaDoor
open Go.RowKit

theorem results_row_tmp {P : Program} {fn : Func} {p u : Tmp} {ty : TypeId} (h : fn.results = #[.cell p ty, .tmp u]) (tmps : Array Value) (w : World) (g : Nat) (t : TypeId) (cs : Array Value) (fr : Nat × Nat) (d : TypeDesc)
    (hp : tmps.getD p undef = .pointer (some ⟨g, 0, none⟩)) (hg : w.heap[g]? = some (.cells cs t fr))
    (hu : P.underlying ty = some d) (hd : (match d with | .struct _ | .array _ _ => true | _ => false) = true) (hi : (P.info? ty).map (·.size) = some cs.size) :
    (results fn tmps).run P w = .ok (.tuple #[.agg cs, tmps.getD u undef]) w := by
  have hp' : tmps[p]?.getD undef = .pointer (some ⟨g, 0, none⟩) := by simpa using hp
  rw [results_cell_tmp h]
  simp [hp', asAddr, Result.andThen, run_loadVar_row w g t ty cs fr d hg hu hd hi]
theorem set4 {w : World} {g : Nat} {t : TypeId} {a b c d : Value} (h : Blk w g t #[a, b, c, d]) (x0 x1 x2 x3 : Value) :
    Blk ((((w.setCell ⟨g, 0, none⟩ x0).setCell ⟨g, 1, none⟩ x1).setCell ⟨g, 2, none⟩ x2).setCell ⟨g, 3, none⟩ x3) g t #[x0, x1, x2, x3] := by
  simpa using (((h.set 0 x0).set 1 x1).set 2 x2).set 3 x3
theorem bel4 {B : Nat} {w W : World} {g : Nat} (h : Below B w W) (hg : B ≤ g) (x0 x1 x2 x3 : Value) :
    Below B w ((((W.setCell ⟨g, 0, none⟩ x0).setCell ⟨g, 1, none⟩ x1).setCell ⟨g, 2, none⟩ x2).setCell ⟨g, 3, none⟩ x3) :=
  (((h.setCell (p := ⟨g, 0, none⟩) hg x0).setCell (p := ⟨g, 1, none⟩) hg x1).setCell (p := ⟨g, 2, none⟩) hg x2).setCell (p := ⟨g, 3, none⟩) hg x3
/-- What a call says of the command that it reads. -/
def RdR (B : Nat) (w : World) (op : Int) (nm ot : ByteArray) (v : Value) (b : Bool) : Option Cmd → Prop
  | none => b = false ∧ ∃ A n c, v = .slice A n c
  | some q => b = true ∧ op = q.1 ∧ nm = q.2.1 ∧ ot = q.2.2.1 ∧ w.ownsRow B 3 1 v q.2.2.2.length (iv q.2.2.2)
theorem own_less {w : World} {base base' : Nat} {e : TypeId} {size n : Nat} {v : Value} {xs : List Value} (h : w.ownsRow base e size v n xs) (hb : base' ≤ base) : w.ownsRow base' e size v n xs := by
  obtain ⟨h1, h2⟩ := h
  refine ⟨h1, ?_⟩
  rcases h2 with h2 | ⟨g, cap, cur, k1, k2, k3, k4⟩
  · exact .inl h2
  · exact .inr ⟨g, cap, cur, k1, Nat.le_trans hb k2, k3, k4⟩
theorem read_fail {w W : World} {G : Option Cmd} (hres : none = G) (hB : Below w.heap.size w W) :
    (∃ op nm ot v b, Ending.returned (.tuple #[.agg #[.int .i64 0, .string ⟨#[]⟩, .string ⟨#[]⟩, .slice none 0 0], .bool false]) = .returned (.tuple #[cmdV op nm ot v, .bool b]) ∧ RdR w.heap.size W op nm ot v b G) ∧ Below w.heap.size w W :=
  ⟨⟨0, _, _, _, false, rfl, by subst hres; exact ⟨rfl, _, _, _, rfl⟩⟩, hB⟩
abbrev zc : Array Value := #[.int .i64 0, .string ⟨#[]⟩, .string ⟨#[]⟩, .slice none 0 0]
theorem nm1_0 (L : List ByteArray) : nm1 L 0 = ⟨#[]⟩ := rfl
theorem nm2_0 (L : List ByteArray) : nm2 L 0 = ⟨#[]⟩ := rfl
theorem nm2_1 (L : List ByteArray) : nm2 L 1 = ⟨#[]⟩ := rfl
theorem own_setc {w : World} {base : Nat} {e : TypeId} {size n : Nat} {v : Value} {xs : List Value} {g i : Nat} (h : w.ownsRow base e size v n xs) (hg : g < base) (x : Value) : (w.setCell ⟨g, i, none⟩ x).ownsRow base e size v n xs := by
  obtain ⟨h1, h2⟩ := h
  refine ⟨h1, ?_⟩
  rcases h2 with h2 | ⟨g', cap, cur, k1, k2, k3, k4⟩
  · exact .inl h2
  · exact .inr ⟨g', cap, cur, k1, k2, (Below.heap_setCell w _ _ g' (by simp; omega)).trans k3, k4⟩

set_option maxRecDepth 100000 in
set_option maxHeartbeats 4000000 in
theorem line_read (A : Option Addr) (c : Nat) (L : List ByteArray) (w : World) (hW : Wz w) (hr : Rd w A L.length 1 (sc L)) (hc1 : L.length ≤ c) (hc2 : c ≤ maxLen) (hL : 1 ≤ L.length) (hsz : ∀ j, (L.getD j ByteArray.empty).size ≤ 1000000) (hL2 : L.length ≤ 1000000) :
    Calls Tryd.prog 66 #[.slice A L.length c] w fun e w' => (∃ op nm ot v b, e = .returned (.tuple #[cmdV op nm ot v, .bool b]) ∧ RdR w.heap.size w' op nm ot v b (readF L)) ∧ Below w.heap.size w w' := by
  obtain ⟨b, off, rfl, hb, hcA⟩ := hr (show 0 < L.length by omega)
  have hcell : Hid (∀ j, j < L.length → w.cell? ⟨b, off + j, none⟩ = some (.string (L.getD j ByteArray.empty))) := fun j hj => hcA j (by omega)
  clear hcA
  obtain ⟨G, hG⟩ : ∃ G, Hid (readF L = G) := ⟨_, rfl⟩
  rw [hG.out]
  unfold readF at hG
  have hI := hide (fun (W : World) (h : Below w.heap.size w W) => index_word (L.getD 0 ByteArray.empty) W (hW.of_below (Nat.le_refl _) h))
  have hc0 := hcell.out 0 (by omega)
  obtain ⟨n, hn⟩ : ∃ n, Hid (L.length = n) := ⟨_, rfl⟩
  rw [hn.out] at hc1 hL hL2 hG ⊢
  have hdl : Hid (∀ j, j < n → L.drop j = L.getD j ByteArray.empty :: L.drop (j + 1)) := fun j hj => by
    have hj' : j < L.length := by rw [hn.out]; exact hj
    rw [List.drop_eq_getElem_cons hj']
    simp [hj']
  have hdn : Hid (L.drop n = []) := List.drop_of_length_le (by rw [hn.out]; exact Nat.le_refl _)
  generalize hw0 : L.getD 0 ByteArray.empty = w0 at *
  replace hw0 := hide hw0
  clear hr hW
  rw [Nat.add_zero] at hc0
  have hn1 : (0 : Int) < n := by omega
  have hb0 := hide (balloc0 w (.cells #[.int .i64 0, .string ⟨#[]⟩, .string ⟨#[]⟩, .slice none 0 0] 54))
  have hz0 : (w.alloc (.cells #[.int .i64 0, .string ⟨#[]⟩, .string ⟨#[]⟩, .slice none 0 0] 54)).heap.size = w.heap.size + 1 := by simp
  generalize hW0 : w.alloc (.cells #[.int .i64 0, .string ⟨#[]⟩, .string ⟨#[]⟩, .slice none 0 0] 54) = W0 at *
  have hcW : W0.cell? ⟨b, off, none⟩ = some (.string w0) := (hb0.out.cell (p := ⟨b, off, none⟩) hb).trans hc0
  have hbW : b < W0.heap.size := by omega
  have hB0 : Hid (Blk W0 w.heap.size 54 #[.int .i64 0, .string ⟨#[]⟩, .string ⟨#[]⟩, .slice none 0 0]) := by show Blk _ _ _ _; rw [← hW0]; exact Blk.made _ _ _
  go_enter Tryd.func66, Tryd.ntmps66
  go_upto_region 1 with fail
  go_cut [4] (fun p wx => p = .pointer (some ⟨w.heap.size + 1, 0, none⟩) ∧ Blk wx w.heap.size 54 zc ∧ Blk wx (w.heap.size + 1) 54 #[.int .i64 (opI w0), .string ⟨#[]⟩, .string ⟨#[]⟩, .slice none 0 0] ∧ wx.heap.size = w.heap.size + 2 ∧ Below w.heap.size w wx)
  case first =>
    go_region_with (go_at_call 85; (with_reducible refine (hI.out _ ?_).mono ?_); (first | exact hb0.out | exact hb0.out.drew | exact balloc hb0.out.drew _ | exact balloc hb0.out _); rintro e w1 ⟨rfl, rfl⟩)
    all_goals
      go_wp2_with fail
      go_meet
      exact ⟨rfl, (hB0.out.drew.alloc _), Blk.made_at _ _ _ (by simp [hz0]), by simp [hz0], balloc hb0.out.drew _⟩
  case rest =>
    obtain ⟨rfl, hBr, hBc, hz, hbel⟩ := hcut
    clear hI hW0 hz0 hcW hbW hB0 hb0 W0 hc0
    have c0 := hBc.cell 0
    simp only [List.getElem?_toArray, List.getElem?_cons_zero] at c0
    replace hbel := hide hbel
    by_cases h0 : opF w0 = 0
    · have hlt : opI w0 < 1 := by have := (opI_pos (t := w0)); omega
      have r0 := hBr.cell 0
      have r1 := hBr.cell 1
      have r2 := hBr.cell 2
      have r3 := hBr.cell 3
      simp only [List.getElem?_toArray, List.getElem?_cons_zero, List.getElem?_cons_succ] at r0 r1 r2 r3
      have f0 := hBr.free 0
      have f1 := hBr.free 1
      have f2 := hBr.free 2
      have f3 := hBr.free 3
      have hres : Hid (none = G) := by show _ = _; rw [← hG.out, if_pos h0]
      replace hBr := hide hBr
      clear hBc
      go_wp2_with fail
      (try simp only [Exit.inBlock, Exit.then])
      refine bodyPost_ret (results_row_tmp rfl _ _ w.heap.size 54 zc (0, 0) _ rfl (set4 hBr.out _ _ _ _) Tryd.underlying54 rfl (by kernel_rfl)) rfl ?_
      exact read_fail hres.out (bel4 hbel.out (Nat.le_refl _) _ _ _ _)
    · rw [if_neg h0] at hG
      have hge : ¬ opI w0 < 1 := by have := (opI_pos (t := w0)).2 h0; omega
      have hop : opI w0 = (opF w0 : Int) := by unfold opF; omega
      have hk19 := opF_lt w0
      have hN := fun W => line_needs (opI w0) W
      rw [hop] at hN
      have hk2 := (need_le (opF w0 : Nat)).1
      generalize opI w0 = o at *
      subst hop
      generalize opF w0 = o at *
      generalize (needF ((o : Nat) : Int)).1 = k at *
      generalize (needF ((o : Nat) : Int)).2.1 = lo at *
      generalize (needF ((o : Nat) : Int)).2.2 = hi at *
      replace hN := hide hN
      have hk2' : (k : Int) ≤ 2 := by omega
      have hcc : c = 1 ∨ (1 : Int) < c := by omega
      have hnone : Hid (n ≤ k → none = G) := fun h => by rw [← hG.out, if_pos h]
      have hmain : Hid (¬ n ≤ k → finF o L k (numsGo [] (L.drop (1 + k))) = G) := fun h => by rw [← hG.out, if_neg h]
      clear hG h0
      go_upto_region 5 with (go_at_call 77; refine (hN.out _).mono ?_; rintro e w1 ⟨rfl, rfl⟩)
      go_cut [0, 5] (fun v kk wx => kk = .int .i64 k ∧ ∃ A' : Option Addr, v = .slice A' (n - 1) (c - 1) ∧ (1 < c → A' = some ⟨b, off + 1, none⟩) ∧ wx = wc)
      case first =>
        rcases hcc with hcc | hcc
        · subst hcc
          go_wp2_with fail
          go_meet
          exact ⟨rfl, some ⟨b, off, none⟩, by simp; omega, fun h => by omega, rfl⟩
        · go_wp2_with fail
          go_meet
          exact ⟨rfl, _, rfl, fun _ => rfl, rfl⟩
      case rest =>
        obtain ⟨rfl, A', rfl, hA', hwq⟩ := hcut
        subst hwq
        clear hcc hN hge
        have hBp : Blk (wc.alloc (.cells #[.pointer (some ⟨w.heap.size + 1, 1, none⟩), .pointer (some ⟨w.heap.size + 1, 2, none⟩)] 109)) (w.heap.size + 2) 109 #[.pointer (some ⟨w.heap.size + 1, 1, none⟩), .pointer (some ⟨w.heap.size + 1, 2, none⟩)] := Blk.made_at _ _ _ hz.symm
        have hBr1 := hBr.alloc (.cells #[.pointer (some ⟨w.heap.size + 1, 1, none⟩), .pointer (some ⟨w.heap.size + 1, 2, none⟩)] 109)
        have hBc1 := hBc.alloc (.cells #[.pointer (some ⟨w.heap.size + 1, 1, none⟩), .pointer (some ⟨w.heap.size + 1, 2, none⟩)] 109)
        have hbel1 := balloc hbel.out (.cells #[.pointer (some ⟨w.heap.size + 1, 1, none⟩), .pointer (some ⟨w.heap.size + 1, 2, none⟩)] 109)
        replace hBp := hide hBp
        replace hBr1 := hide hBr1
        replace hBc1 := hide hBc1
        replace hbel1 := hide hbel1
        clear hBr hBc c0 hbel
        have hsl : (if 2 = 0 then (some ⟨w.heap.size + 2, 0, none⟩ : Option Addr) else some ⟨w.heap.size + 2, 0, none⟩) = some ⟨w.heap.size + 2, 0, none⟩ := rfl
        go_wp2_with fail
        go_loopw [0, 40] (fun v x wr => ∃ (m q cq : Nat) (A' : Option Addr), v = .slice A' q cq ∧ x = .int .i64 m ∧ m ≤ k ∧ q + (m + 1) = n ∧ cq + (m + 1) = c ∧ (m + 1 < c → A' = some ⟨b, off + (m + 1), none⟩) ∧ Blk wr w.heap.size 54 zc ∧
            Blk wr (w.heap.size + 1) 54 #[.int .i64 o, .string (nm1 L m), .string (nm2 L m), .slice none 0 0] ∧ Blk wr (w.heap.size + 2) 109 #[.pointer (some ⟨w.heap.size + 1, 1, none⟩), .pointer (some ⟨w.heap.size + 1, 2, none⟩)] ∧ Below w.heap.size w wr) (fun _ x _ => k - (intOf x).toNat)
        case atStart => exact ⟨0, n - 1, c - 1, A', rfl, rfl, Nat.zero_le _, by omega, by omega, hA', hBr1.out, hBc1.out, hBp.out, hbel1.out⟩
        case round =>
          clear hA' hBr1 hBc1 hBp hbel1
          obtain ⟨m, q, cq, A', rfl, rfl, hm, hq, hcq, hA', hBr, hBc, hBp, hbel⟩ := hrel
          by_cases hmk : m < k
          · have r0 := hBr.cell 0
            have r1 := hBr.cell 1
            have r2 := hBr.cell 2
            have r3 := hBr.cell 3
            have c1 := hBc.cell 1
            have c2 := hBc.cell 2
            have p0 := hBp.cell 0
            have p1 := hBp.cell 1
            simp only [List.getElem?_toArray, List.getElem?_cons_zero, List.getElem?_cons_succ] at r0 r1 r2 r3 c1 c2 p0 p1
            have f0 := hBr.free 0
            have f1 := hBr.free 1
            have f2 := hBr.free 2
            have f3 := hBr.free 3
            have g1 := hBc.free 1
            have g2 := hBc.free 2
            have hpl := hBp.lt
            replace hBr := hide hBr
            replace hBc := hide hBc
            replace hBp := hide hBp
            by_cases hq0 : q = 0
            · subst hq0
              have hres := hide (hnone.out (by omega))
              replace hbel := hide hbel
              have hm2 : m = 0 ∨ m = 1 := by omega
              have hk1 : (m : Int) < k := by omega
              clear hA' hq hcq hm hmk hnone hmain hk2 hc1
              rcases hm2 with rfl | rfl
              all_goals
                go_wp2_with fail
                (try simp only [Exit.inBlock, Exit.then])
                refine bodyPost_ret (results_row_tmp rfl _ _ w.heap.size 54 zc (0, 0) _ rfl (set4 hBr.out _ _ _ _) Tryd.underlying54 rfl (by kernel_rfl)) rfl ?_
                exact read_fail hres.out (bel4 hbel.out (Nat.le_refl _) _ _ _ _)
            · obtain ⟨q, rfl⟩ : ∃ q', q = q' + 1 := ⟨q - 1, by omega⟩
              obtain ⟨cq, rfl⟩ : ∃ q', cq = q' + 1 := ⟨cq - 1, by omega⟩
              obtain rfl := hA' (by omega)
              clear hA' hq0
              have t0 : wr.cell? ⟨b, off + (m + 1), none⟩ = some (.string (L.getD (m + 1) ByteArray.empty)) := (hbel.cell (p := ⟨b, off + (m + 1), none⟩) hb).trans (hcell.out (m + 1) (by rw [hn.out]; omega))
              have hbr : b < wr.heap.size := Nat.lt_of_lt_of_le hb hbel.size
              replace hbel := hide hbel
              have hm2 : m = 0 ∨ m = 1 := by omega
              have hk1 : (m : Int) < k := by omega
              have hm1 : m + 1 ≤ k := by omega
              have hqz : ((q : Int) + 1 == 0) = false := by rw [beq_eq_false_iff_ne]; omega
              have hq2 : q + (m + 1 + 1) = n := by omega
              have hcq2 : cq + (m + 1 + 1) = c := by omega
              have hcz : cq = 0 ∨ 0 < cq := by omega
              replace hq2 := hide hq2
              replace hcq2 := hide hcq2
              replace hm1 := hide hm1
              have hkk := hide hk2
              clear hq hcq hm hmk hc1 hk2
              rcases hm2 with rfl | rfl
              · have e1 : nm1 L 1 = L.getD (0 + 1) ByteArray.empty := rfl
                generalize L.getD (0 + 1) ByteArray.empty = t at *
                replace e1 := hide e1
                go_upto_region 11 with fail
                rcases hcz with hcz | hcz
                · subst hcz
                  go_region
                  all_goals
                    go_wp2_with fail
                    go_roundw
                    case rel => exact ⟨0 + 1, q, 0, _, rfl, rfl, hm1.out, hq2.out, hcq2.out, fun h => (by have := hcq2.out; omega), (hBr.out.off (by simp) _).drew, (by have h := (hBc.out.set 1 (.string t)).drew; rw [show nm1 L (0 + 1) = t from e1.out, show nm2 L (0 + 1) = nm2 L 0 from rfl]; simpa using h), (hBp.out.off (by simp) _).drew, (hbel.out.setCell (p := ⟨w.heap.size + 1, 1, none⟩) (by simp) _).drew⟩
                    case measure => have := hm1.out; simp [intOf]; omega
                · have hcz2 : ((cq : Int) + 1 == 1) = false := by rw [beq_eq_false_iff_ne]; omega
                  have hcz3 : ¬ cq = 0 := by omega
                  go_region
                  all_goals
                    go_wp2_with fail
                    go_roundw
                    case rel => exact ⟨0 + 1, q, cq, _, rfl, rfl, hm1.out, hq2.out, hcq2.out, fun _ => rfl, (hBr.out.off (by simp) _).drew, (by have h := (hBc.out.set 1 (.string t)).drew; rw [show nm1 L (0 + 1) = t from e1.out, show nm2 L (0 + 1) = nm2 L 0 from rfl]; simpa using h), (hBp.out.off (by simp) _).drew, (hbel.out.setCell (p := ⟨w.heap.size + 1, 1, none⟩) (by simp) _).drew⟩
                    case measure => have := hm1.out; simp [intOf]; omega
              · have e1 : nm2 L 2 = L.getD (1 + 1) ByteArray.empty := rfl
                generalize L.getD (1 + 1) ByteArray.empty = t at *
                replace e1 := hide e1
                go_upto_region 11 with fail
                rcases hcz with hcz | hcz
                · subst hcz
                  go_region
                  all_goals
                    go_wp2_with fail
                    go_roundw
                    case rel => exact ⟨1 + 1, q, 0, _, rfl, rfl, hm1.out, hq2.out, hcq2.out, fun h => (by have := hcq2.out; omega), (hBr.out.off (by simp) _).drew, (by have h := (hBc.out.set 2 (.string t)).drew; rw [show nm2 L (1 + 1) = t from e1.out, show nm1 L (1 + 1) = nm1 L 1 from rfl]; simpa using h), (hBp.out.off (by simp) _).drew, (hbel.out.setCell (p := ⟨w.heap.size + 1, 2, none⟩) (by simp) _).drew⟩
                    case measure => have := hm1.out; simp [intOf]; omega
                · have hcz2 : ((cq : Int) + 1 == 1) = false := by rw [beq_eq_false_iff_ne]; omega
                  have hcz3 : ¬ cq = 0 := by omega
                  go_region
                  all_goals
                    go_wp2_with fail
                    go_roundw
                    case rel => exact ⟨1 + 1, q, cq, _, rfl, rfl, hm1.out, hq2.out, hcq2.out, fun _ => rfl, (hBr.out.off (by simp) _).drew, (by have h := (hBc.out.set 2 (.string t)).drew; rw [show nm2 L (1 + 1) = t from e1.out, show nm1 L (1 + 1) = nm1 L 1 from rfl]; simpa using h), (hBp.out.off (by simp) _).drew, (hbel.out.setCell (p := ⟨w.heap.size + 1, 2, none⟩) (by simp) _).drew⟩
                    case measure => have := hm1.out; simp [intOf]; omega
          · obtain rfl : m = k := by omega
            have hF := hmain.out (by omega)
            have hl3 := hBp.lt
            obtain ⟨F, hst⟩ : ∃ F, Hid (numsGo [] (L.drop (1 + m)) = F) := ⟨_, rfl⟩
            rw [hst.out] at hF
            replace hF := hide hF
            have hqn : Hid (q + (m + 1) = n) := hq
            have hqc : q ≤ cq := by omega
            have hA2 : Hid (0 < q → A' = some ⟨b, off + (m + 1), none⟩) := fun h => hA' (by omega)
            have hbig : q ≤ 1000000 := by omega
            replace hBr := hide hBr
            replace hBc := hide hBc
            replace hbel := hide hbel
            clear hA' hq hcq hnone hmain hBp hk2 hk2' hm hmk hc1 hc2 hn1 hL hL2
            go_wp2_with fail
            go_loopw [58] (fun x wr => ∃ (j : Nat) (acc : List Int) (va : Value), x = .int .i64 j ∧ j ≤ q ∧ acc.length = j ∧ Blk wr w.heap.size 54 zc ∧ Blk wr (w.heap.size + 1) 54 #[.int .i64 o, .string (nm1 L m), .string (nm2 L m), va] ∧
              wr.ownsRow (w.heap.size + 2) 3 1 va j (iv acc) ∧ Hid (numsGo acc (L.drop (1 + m + j)) = F) ∧ Below w.heap.size w wr ∧ w.heap.size + 2 ≤ wr.heap.size) (fun x _ => q - (intOf x).toNat)
            case atStart => exact ⟨0, [], .slice none 0 0, rfl, Nat.zero_le _, rfl, hBr.out, hBc.out, World.ownsRow_nil _ _ _ _, hst.out, hbel.out, by omega⟩
            case round =>
              clear hBr hBc hbel hst hl3
              obtain ⟨j, acc, va, rfl, hj, hacc, hBr, hBc, how, hnum, hbel, hz3⟩ := hrel
              obtain ⟨Aa, ca, rfl, ha1, ha2, ha3⟩ := own_form how
              have r0 := hBr.cell 0
              have r1 := hBr.cell 1
              have r2 := hBr.cell 2
              have r3 := hBr.cell 3
              have c0 := hBc.cell 0
              have c1 := hBc.cell 1
              have c2 := hBc.cell 2
              have c3 := hBc.cell 3
              simp only [List.getElem?_toArray, List.getElem?_cons_zero, List.getElem?_cons_succ] at r0 r1 r2 r3 c0 c1 c2 c3
              have f0 := hBr.free 0
              have f1 := hBr.free 1
              have f2 := hBr.free 2
              have f3 := hBr.free 3
              replace hacc := hide hacc
              by_cases hjq : j < q
              · obtain rfl := hA2.out (by omega)
                have hd := hdl.out (1 + m + j) (by have := hqn.out; omega)
                have t0 : wr.cell? ⟨b, off + (m + 1) + j, none⟩ = some (.string (L.getD (1 + m + j) ByteArray.empty)) := by
                  have := (hbel.cell (p := ⟨b, off + (1 + m + j), none⟩) hb).trans (hcell.out (1 + m + j) (by rw [hn.out]; have := hqn.out; omega))
                  rwa [show off + (1 + m + j) = off + (m + 1) + j by omega] at this
                have hbr : b < wr.heap.size := Nat.lt_of_lt_of_le hb hbel.size
                have hts := hsz (1 + m + j)
                rw [hd] at hnum
                clear hd
                generalize L.getD (1 + m + j) ByteArray.empty = t at *
                have hS := hide (fun W => sheet_number t W (by omega))
                have hle := num_le t
                have hW : Hid (numW t = if (numF t.data.toList).2.2 = true ∧ (numF t.data.toList).2.1 = t.size then some ((numF t.data.toList).1 : Int) else none) := rfl
                generalize numF t.data.toList = N at *
                obtain ⟨N1, N2, N3⟩ := N
                simp only [] at hS hle hW
                replace hbel := hide hbel
                replace hBr := hide hBr
                replace how := hide how
                by_cases hok : N3 = true ∧ N2 = t.size
                · obtain ⟨rfl, rfl⟩ := hok
                  have hnum2 : Hid (numsGo (acc ++ [(N1 : Int)]) (L.drop (1 + m + (j + 1))) = F) := by
                    show _ = _
                    rw [← hnum.out, numsGo_on (by rw [hW.out, if_pos ⟨rfl, rfl⟩])]
                    rfl
                  have hacc2 : Hid ((acc ++ [(N1 : Int)]).length = j + 1) := by show _ = _; rw [List.length_append, hacc.out]; rfl
                  clear hnum hW
                  go_wp2_with (first
                    | (go_at_call 86; refine (hS.out _).mono ?_; rintro e w1 ⟨rfl, rfl⟩)
                    | (at_builtin; refine wpList_app1 elInt rfl (.tmp 78) (.tmp 80) rfl (w.heap.size + 2) _ _ _ [.int .i64 (N1 : Int)] 3 rfl how.out rfl rfl (one1 rfl) (by omega) (by omega) ?_; intro v3 w3 how3 hb3 hgr3 hat3; obtain ⟨A3, ca3, rfl, _, _, _⟩ := own_form how3; have hBc3 := hBc.below hb3 (by omega); have e3 := hBc3.cell 3; simp only [List.getElem?_toArray, List.getElem?_cons_zero, List.getElem?_cons_succ] at e3; have f3 := hBc3.free 3; have hBr3 := hide (hBr.out.below hb3 (by omega)); have hBc3 := hide hBc3; have how3 := hide how3; have hb3 := hide hb3; clear hgr3 hat3))
                  go_roundw
                  case rel => exact ⟨j + 1, acc ++ [(N1 : Int)], _, by go_num, by omega, hacc2.out, hBr3.out.off (by simp) _, (by have h := hBc3.out.set 3 (.slice A3 (j + 1) ca3); simpa using h), own_setc (by rw [iv_snoc]; exact how3.out) (by omega) _, hnum2, (hbel.out.trans (hb3.out.mono (by omega))).setCell (p := ⟨w.heap.size + 1, 3, none⟩) (by simp) _, by simp; have := hb3.out.size; omega⟩
                  case measure => simp [intOf] <;> omega
                · have hres : Hid (none = G) := by
                    show _ = _
                    rw [← hF.out, ← hnum.out, numsGo_bad (by rw [hW.out, if_neg hok])]
                    rfl
                  clear hnum hW
                  cases N3
                  · clear hok
                    go_wp2_with (go_at_call 86; refine (hS.out _).mono ?_; rintro e w1 ⟨rfl, rfl⟩)
                    (try simp only [Exit.inBlock, Exit.then])
                    refine bodyPost_ret (results_row_tmp rfl _ _ w.heap.size 54 zc (0, 0) _ rfl (set4 hBr.out _ _ _ _) Tryd.underlying54 rfl (by kernel_rfl)) rfl ?_
                    exact read_fail hres.out (bel4 hbel.out (Nat.le_refl _) _ _ _ _)
                  · have hlt2 : (N2 : Int) < t.size := by have : ¬ N2 = t.size := fun h => hok ⟨rfl, h⟩; omega
                    clear hok
                    go_wp2_with (go_at_call 86; refine (hS.out _).mono ?_; rintro e w1 ⟨rfl, rfl⟩)
                    (try simp only [Exit.inBlock, Exit.then])
                    refine bodyPost_ret (results_row_tmp rfl _ _ w.heap.size 54 zc (0, 0) _ rfl (set4 hBr.out _ _ _ _) Tryd.underlying54 rfl (by kernel_rfl)) rfl ?_
                    exact read_fail hres.out (bel4 hbel.out (Nat.le_refl _) _ _ _ _)
              · obtain rfl : j = q := by omega
                have hFe : F = some acc := by
                  rw [← hnum.out, show 1 + m + j = n by have := hqn.out; omega, hdn.out, numsGo_nil]
                have hG2 : Hid ((if cmdR (o : Nat) (nm1 L m) (nm2 L m) acc = true then some (((o : Nat) : Int), nm1 L m, nm2 L m, acc) else none) = G) := by show _ = _; rw [← hF.out, hFe]; rfl
                have hI1 := hide (own_its hacc.out how)
                have hlen : acc.length ≤ 1000000000 := by rw [hacc.out]; omega
                have hR := hide (fun (W : World) (h : Its W (.slice Aa j ca) acc) => line_right o (nm1 L m) (nm2 L m) acc (.slice Aa j ca) W h hlen)
                generalize cmdR o (nm1 L m) (nm2 L m) acc = R at *
                generalize nm1 L m = x1 at *
                generalize nm2 L m = x2 at *
                have hlc : w.heap.size + 1 < wr.heap.size := by omega
                replace hbel := hide hbel
                replace hBr := hide hBr
                replace hBc := hide hBc
                replace how := hide how
                clear hnum hF hFe
                go_wp2_with fail
                go_region_with (go_at_call 51; (with_reducible refine (hR.out _ ?_).mono ?_); (exact hI1.out); rintro e w4 ⟨rfl, hb4⟩; have hBr4 := hBr.out.drew.kept hb4; have s0 := hBr4.cell 0; have s1 := hBr4.cell 1; have s2 := hBr4.cell 2; have s3 := hBr4.cell 3; simp only [List.getElem?_toArray, List.getElem?_cons_zero, List.getElem?_cons_succ] at s0 s1 s2 s3; have h0 := hBr4.free 0; have h1 := hBr4.free 1; have h2 := hBr4.free 2; have h3 := hBr4.free 3; have hBc4 := hBc.out.drew.kept hb4; have d0 := hBc4.cell 0; have d1 := hBc4.cell 1; have d2 := hBc4.cell 2; have d3 := hBc4.cell 3; simp only [List.getElem?_toArray, List.getElem?_cons_zero, List.getElem?_cons_succ] at d0 d1 d2 d3; have hBr4 := hide hBr4; clear hBc4; have hb4 := hide hb4)
                all_goals
                  go_wp2_with fail
                  (try simp only [Exit.inBlock, Exit.then])
                  refine bodyPost_ret (results_row_tmp rfl _ _ w.heap.size 54 #[.int .i64 o, .string x1, .string x2, .slice Aa j ca] (0, 0) _ rfl (set4 hBr4.out _ _ _ _) Tryd.underlying54 rfl (by kernel_rfl)) rfl ?_
                  refine ⟨⟨_, _, _, _, _, rfl, ?_⟩, bel4 (bthen hbel.out.drew hb4.out) (Nat.le_refl _) _ _ _ _⟩
                  rw [← hG2.out]
                  cases R
                  · exact ⟨rfl, _, _, _, rfl⟩
                  · exact ⟨rfl, rfl, rfl, rfl, own_less (by rw [hacc.out]; exact own_setc (own_setc (own_setc (own_setc (own_kept1 (w := wr.drew) how.out hb4.out) (by omega) _) (by omega) _) (by omega) _) (by omega) _) (by omega)⟩
end Go.Proofs.YtcpakoobgcdekaaDoor
