/- Part 35 of the proof: texts joined by this repo's tools/merge2.py (WirA WirB WirC WirD WirE). By the prover of this repo. -/
import Derived.Test.YteebghoijaaakaaGreatM27
import Derived.Test.YteebghoijaaakaaGreatM16
import Derived.Test.YteebghoijaaakaaGreatM17
import Derived.Test.YteebghoijaaakaaGreatM23
import Derived.Test.YteebghoijaaakaaGreatM20
import Derived.Laws.ResultCell
import Derived.Laws.Rows
set_option linter.unusedVariables false
set_option linter.unusedSimpArgs false
/- The walks of the reader of a digest's bytes: what it does where nothing is wrong. By the prover of this repo. -/
namespace Go.Proofs.YteebghoijaaakaaGreat
open Go.RowKit
open TwigM RollM StoM VaryM WirM

/-- A reader, of which nothing is wrong. -/
abbrev RdAt (w : World) (g : Nat) (s : List UInt8) : Prop := Blk w g 206 #[.string (str s), .int .i64 0]
theorem wfail_no (g : Nat) (f : Int) (w : World) : Calls Tryz.prog 151 #[.pointer (some ⟨g, 0, none⟩), .bool false, .int .i64 f] w fun e w' => (∃ v, e = .returned v) ∧ w = w' := by
  go_enter Tryz.func151, Tryz.ntmps151
  go_wp2_with fail
  go_end0
  exact ⟨⟨_, rfl⟩, rfl⟩
theorem str_ext_take (a b : List UInt8) {n : Nat} (hn : a.length = n) : (str (a ++ b)).extract 0 n = str a := by subst hn; exact str_take a b
theorem str_ext_cut (a b : List UInt8) {n : Nat} (hn : a.length = n) : (str (a ++ b)).extract n (str (a ++ b)).size = str b := by subst hn; exact str_cut a b
set_option maxRecDepth 100000 in
theorem wraw_c (g n : Nat) (a r : List UInt8) (w : World) (h : RdAt w g (a ++ r)) (hn : a.length = n) (hsz : (a ++ r).length ≤ 1000000000) :
    Calls Tryz.prog 152 #[.pointer (some ⟨g, 0, none⟩), .int .i64 n] w fun e w' => e = .returned (.string (str a)) ∧ w' = w.setCell ⟨g, 0, none⟩ (.string (str r)) := by
  have c0 := h.cell 0
  have c1 := h.cell 1
  have f0 := h.free 0
  have hl := h.lt
  have hF := hide (fun W => wfail_no g 9 W)
  have e1 := hide (str_ext_take a r hn)
  have e2 := hide (str_ext_cut a r hn)
  have hs : n ≤ (str (a ++ r)).size := by rw [str_size, List.length_append]; omega
  have hs2 : (str (a ++ r)).size ≤ 1000000000 := by rw [str_size]; exact hsz
  clear h
  generalize str (a ++ r) = S at *
  have hlt : ¬ ((S.size : Int) < (n : Int)) := by omega
  go_enter Tryz.func152, Tryz.ntmps152
  go_wp2_with fail
  refine Calls.mono (hF.out _) ?_
  rintro e w1 ⟨⟨v, rfl⟩, rfl⟩
  go_wp2_with fail
  go_ret
  exact ⟨by rw [← e1.out]; rfl, by rw [← e2.out]⟩
set_option maxRecDepth 100000 in
theorem wnum_c (g m : Nat) (r : List UInt8) (w : World) (h : RdAt w g (enc m ++ r)) (hm : m ≤ 9223372036854775807) (hsz : (enc m ++ r).length ≤ 1000000000) :
    Calls Tryz.prog 155 #[.pointer (some ⟨g, 0, none⟩)] w fun e w' => e = .returned (.int .i64 m) ∧ w' = w.setCell ⟨g, 0, none⟩ (.string (str r)) := by
  have c0 := h.cell 0
  have c1 := h.cell 1
  have f0 := h.free 0
  have hl := h.lt
  have hF := hide (fun W => wfail_no g 0 W)
  have e2 := hide (str_cut (enc m) r)
  have hg := vary_get_big (str (enc m ++ r)) w (by rw [str_size]; exact hsz)
  have hgv : get (str (enc m ++ r)).data.toList = (m, (enc m).length, 0) := get_enc hm r
  unfold getV at hg
  rw [hgv] at hg
  have hg := hide hg
  have hn9 := enc_len9 hm
  have hs : (enc m).length ≤ (str (enc m ++ r)).size := by rw [str_size, List.length_append]; omega
  have hs2 : (str (enc m ++ r)).size ≤ 1000000000 := by rw [str_size]; exact hsz
  clear h hgv
  generalize str (enc m ++ r) = S at *
  generalize (enc m).length = n at *
  go_enter Tryz.func155, Tryz.ntmps155
  go_wp2_with fail
  refine Calls.mono hg.out ?_
  rintro e w1 ⟨rfl, rfl⟩
  go_wp2_with fail
  refine Calls.mono (hF.out _) ?_
  rintro e w1 ⟨⟨v, rfl⟩, rfl⟩
  go_wp2_with fail
  go_ret
  exact ⟨rfl, by rw [← e2.out]⟩
/-- The method as a value. -/
abbrev numV (g : Nat) : Value := .func (.func 155) #[.pointer (some ⟨g, 0, none⟩)] #[]
abbrev lV (g : Nat) : Value := .func (.func 154) #[.pointer (some ⟨g, 0, none⟩)] #[]
set_option maxRecDepth 100000 in
theorem wl_c (g : Nat) (b : UInt8) (r : List UInt8) (w : World) (h : RdAt w g ([b] ++ r)) (hsz : ([b] ++ r).length ≤ 1000000000) :
    Calls Tryz.prog 154 #[.pointer (some ⟨g, 0, none⟩)] w fun e w' => e = .returned (.int .i64 b.toNat) ∧ w' = w.setCell ⟨g, 0, none⟩ (.string (str r)) := by
  have hR := hide (wraw_c g 1 [b] r w h rfl hsz)
  have hb0 : (str [b]).size = 1 := rfl
  have hb1 : ∀ h : 0 < (str [b]).size, (str [b])[0] = b := fun _ => rfl
  have hne : ((str [b]).toList == (⟨#[]⟩ : ByteArray).toList) = false := str_ne (by intro e; have := congrArg ByteArray.size e; rw [hb0] at this; cases this)
  have he : (str [b]).toList.isEmpty = false := by rw [ByteArray.toList_eq]; rfl
  clear h
  generalize str [b] = B at *
  go_enter Tryz.func154, Tryz.ntmps154
  go_wp2_with fail
  refine Calls.mono hR.out ?_
  rintro e w1 ⟨rfl, rfl⟩
  go_wp2_with fail
  go_ret
  exact ⟨ret_congr (int_congr (wrap_in _ (by have := b.toNat_lt; omega))), rfl⟩
end Go.Proofs.YteebghoijaaakaaGreat
/- The walks of the reader of a digest's bytes, on: a number within bounds. By the prover of this repo. -/
namespace Go.Proofs.YteebghoijaaakaaGreat
open Go.RowKit
open TwigM RollM StoM VaryM WirM

set_option maxRecDepth 100000 in
theorem wbet_num (g m : Nat) (least most : Int) (r : List UInt8) (w : World) (h : RdAt w g (enc m ++ r)) (hm : m ≤ 9223372036854775807) (hsz : (enc m ++ r).length ≤ 1000000000) (h1 : least ≤ m) (h2 : (m : Int) ≤ most) :
    Calls Tryz.prog 153 #[.pointer (some ⟨g, 0, none⟩), numV g, .int .i64 least, .int .i64 most] w fun e w' => e = .returned (.int .i64 m) ∧ w' = w.setCell ⟨g, 0, none⟩ (.string (str r)) := by
  have hF := hide (fun W => wfail_no g 10 W)
  have hN := hide (wnum_c g m r w h hm hsz)
  have hd : (decide ((m : Int) < least) || decide (most < (m : Int))) = false := by simp; omega
  have q1 : ¬ ((m : Int) < least) := by omega
  have q2 : ¬ (most < (m : Int)) := by omega
  clear h h1 h2
  go_enter Tryz.func153, Tryz.ntmps153
  go_wp2_with fail
  refine Calls.mono hN.out ?_
  rintro e w1 ⟨rfl, rfl⟩
  go_wp2_with fail
  try rw [hd]
  refine Calls.mono (hF.out _) ?_
  rintro e w1 ⟨⟨v, rfl⟩, rfl⟩
  go_wp2_with fail
  go_ret
  exact ⟨rfl, rfl⟩
set_option maxRecDepth 100000 in
theorem wbet_l (g : Nat) (b : UInt8) (r : List UInt8) (w : World) (h : RdAt w g ([b] ++ r)) (hsz : ([b] ++ r).length ≤ 1000000000) (h1 : 1 ≤ b.toNat) (h2 : b.toNat ≤ 48) :
    Calls Tryz.prog 153 #[.pointer (some ⟨g, 0, none⟩), lV g, .int .i64 1, .int .i64 48] w fun e w' => e = .returned (.int .i64 b.toNat) ∧ w' = w.setCell ⟨g, 0, none⟩ (.string (str r)) := by
  have hF := hide (fun W => wfail_no g 10 W)
  have hN := hide (wl_c g b r w h hsz)
  generalize b.toNat = m at *
  have hd : (decide ((m : Int) < 1) || decide (48 < (m : Int))) = false := by simp; omega
  have q1 : ¬ ((m : Int) < 1) := by omega
  have q2 : ¬ (48 < (m : Int)) := by omega
  clear h h1 h2
  go_enter Tryz.func153, Tryz.ntmps153
  go_wp2_with fail
  refine Calls.mono hN.out ?_
  rintro e w1 ⟨rfl, rfl⟩
  go_wp2_with fail
  try rw [hd]
  refine Calls.mono (hF.out _) ?_
  rintro e w1 ⟨⟨v, rfl⟩, rfl⟩
  go_wp2_with fail
  go_ret
  exact ⟨rfl, rfl⟩
end Go.Proofs.YteebghoijaaakaaGreat
/- The walks of the reader of a digest's bytes, on: the nodes' numbers. By the prover of this repo. -/
namespace Go.Proofs.YteebghoijaaakaaGreat
open Go.RowKit
open TwigM RollM StoM VaryM WirM

set_option maxRecDepth 100000 in
theorem wread1_c (pp : Nat) (L id : Int) (cs : Array Value) (w : World) (h : Blk w pp 150 cs) (h0 : cs[0]? = some (.int .i64 L)) :
    Calls Tryz.prog 157 #[.int .i64 id, .pointer (some ⟨pp, 0, none⟩)] w fun e w' => e = .returned (.bool (rightB L id)) ∧ w = w' := by
  have c0 : w.cell? ⟨pp, 0, none⟩ = some (.int .i64 L) := by rw [h.cell]; exact h0
  have hl := h.lt
  have hR := hide (fun W => right_c L id W)
  clear h
  go_enter Tryz.func157, Tryz.ntmps157
  go_wp2_with fail
  refine Calls.mono (hR.out _) ?_
  rintro e w1 ⟨rfl, rfl⟩
  go_wp2_with fail
  go_ret
  exact ⟨rfl, rfl⟩
set_option maxRecDepth 100000 in
set_option maxHeartbeats 1000000 in
theorem wids_c (g pp : Nat) (L most : Int) (cs : Array Value) (z : List Int) (r : List UInt8) (w : World) (h : RdAt w g ((enc z.length ++ encL (rise 0 z)) ++ r)) (hp : Blk w pp 150 cs) (h0 : cs[0]? = some (.int .i64 L)) (hne : pp ≠ g)
    (hz : z.length ≤ 100000) (hr : Rises 0 z) (hx : ∀ x ∈ z, x ≤ 9223372036854775807) (hri : ∀ x ∈ z, rightB L x = true) (hm : (z.length : Int) ≤ most) (hm2 : most ≤ 9223372036854775807) (hsz : ((enc z.length ++ encL (rise 0 z)) ++ r).length ≤ 100000) :
    Calls Tryz.prog 156 #[.pointer (some ⟨g, 0, none⟩), .int .i64 most, .func (.func 157) #[] #[.pointer (some ⟨pp, 0, none⟩)]] w fun e w' =>
      ∃ v, e = .returned v ∧ w'.ownsRow w.heap.size 3 1 v z.length (z.map iv) ∧ RdAt w' g r ∧ Turn (fun j => j = g) w w' := by
  have c0 := h.cell 0
  have c1 := h.cell 1
  have f0 := h.free 0
  have hl := h.lt
  have hF := hide (fun (f : Int) W => wfail_no g f W)
  have hP1 := hide (fun (x : Int) (W : World) (hW : Turn (fun j => j = g) w W) => wread1_c pp L x cs W (hp.turned hW hne) h0)
  replace hri := hide hri
  have hfa := vary_falls (str ((enc z.length ++ encL (rise 0 z)) ++ r)) most w (by rw [str_size]; exact hsz) (by omega) hm2
  have hff : fall (str ((enc z.length ++ encL (rise 0 z)) ++ r)).data.toList most = (z, ((enc z.length ++ encL (rise 0 z)).length : Int), 0) := fall_most r (by omega) hm hr hx
  rw [hff] at hfa
  simp only at hfa
  replace hfa := hide hfa
  have e2 := hide (str_cut (enc z.length ++ encL (rise 0 z)) r)
  have hs : (enc z.length ++ encL (rise 0 z)).length ≤ (str ((enc z.length ++ encL (rise 0 z)) ++ r)).size := by rw [str_size, List.length_append (bs := r)]; omega
  have hs2 : (str ((enc z.length ++ encL (rise 0 z)) ++ r)).size ≤ 100000 := by rw [str_size]; exact hsz
  have hrd : Hid (Blk w g 206 #[.string (str ((enc z.length ++ encL (rise 0 z)) ++ r)), .int .i64 0]) := h
  clear h hff hp hx hr hsz
  generalize str ((enc z.length ++ encL (rise 0 z)) ++ r) = S at *
  generalize (enc z.length ++ encL (rise 0 z)).length = k at *
  obtain ⟨n, hn⟩ : ∃ n, Hid (z.length = n) := ⟨_, rfl⟩
  rw [hn.out] at hfa hm hz ⊢
  go_enter Tryz.func156, Tryz.ntmps156
  go_wp2_with fail
  refine Calls.mono hfa.out ?_
  rintro e w1 ⟨v, rfl, hv, hb1⟩
  obtain ⟨A, c, rfl, q1, q2, q3⟩ := own_form hv
  have hr1 := hrd.out.kept hb1
  have d0 := hr1.cell 0
  have d1 := hr1.cell 1
  have d2 := hr1.free 0
  have d3 := hr1.lt
  have hv := hide hv
  have ht1 := hide (Below.turn hb1 fun j => j = g)
  clear c0 c1 f0 hb1
  go_wp2_with fail
  refine Calls.mono (hF.out _ _) ?_
  rintro e w2 ⟨⟨v2, rfl⟩, rfl⟩
  have hr2 : RdAt (w1.setCell ⟨g, 0, none⟩ (.string (str r))) g r := by
    have := hr1.set 0 (.string (str r))
    simpa using this
  have hr2 := hide hr2
  have ht2 := hide (ht1.out.trans (Turn.setCell w1 (fun j => j = g) ⟨g, 0, none⟩ (.string (str r)) rfl) fun _ _ q => q)
  have hv2 := hide (own_turnedB hv.out (Turn.setCell w1 (fun j => j = g) ⟨g, 0, none⟩ (.string (str r)) rfl) fun j hj e => by have := (hv.out.lt j hj).1; omega)
  rw [← e2.out] at hr2 ht2 hv2
  clear hr1
  go_wp2_with fail
  generalize w1.setCell ⟨g, 0, none⟩ (.string (S.extract k S.size)) = W2 at *
  have hrd2 := own_rd hv2.out
  clear hv
  go_loop [43] (fun kv => ∃ (i : Nat), i ≤ n ∧ kv = .int .i64 i) (fun kv => n - (intOf kv).toNat)
  case atStart => exact ⟨0, by omega, rfl⟩
  case round =>
    obtain ⟨i, hi, rfl⟩ := hrel
    by_cases hlt : i < n
    · obtain ⟨b, off, rfl, hb, hc⟩ := hrd2 (by omega)
      have hil : i < z.length := by rw [hn.out]; exact hlt
      have hci : W2.cell? ⟨b, off + i, none⟩ = some (.int .i64 z[i]) := by
        rw [hc i (by omega)]
        show some ((z.map iv).getD i undef) = _
        simp [hil, iv]
      have hPi := hide (hP1.out z[i] W2 ht2.out)
      rw [hri.out z[i] (List.getElem_mem hil)] at hPi
      generalize z[i] = x at *
      clear hc
      go_wp2_with fail
      refine Calls.mono hPi.out ?_
      rintro e w3 ⟨rfl, rfl⟩
      go_wp2_with fail
      refine Calls.mono (hF.out _ _) ?_
      rintro e w3 ⟨⟨v3, rfl⟩, rfl⟩
      go_wp2_with fail
      go_round
      case rel => exact ⟨i + 1, by omega, by go_num⟩
      case measure => simp [intOf]; omega
    · go_wp2_with fail
      go_ret
      exact ⟨_, rfl, hv2.out, hr2.out, ht2.out⟩
end Go.Proofs.YteebghoijaaakaaGreat
/- The walk of wire.read: what a digest's bytes tell. By the prover of this repo. -/
namespace Go.Proofs.YteebghoijaaakaaGreat
open Go.RowKit
open TwigM RollM StoM VaryM WirM

theorem results_row_tmp {P : Program} {fn : Func} {p u : Tmp} {ty : TypeId} (h : fn.results = #[.cell p ty, .tmp u]) (tmps : Array Value) (w : World) (g : Nat) (t : TypeId) (cs : Array Value) (fr : Nat × Nat) (d : TypeDesc)
    (hp : tmps.getD p undef = .pointer (some ⟨g, 0, none⟩)) (hg : w.heap[g]? = some (.cells cs t fr))
    (hu : P.underlying ty = some d) (hd : (match d with | .struct _ | .array _ _ => true | _ => false) = true) (hi : (P.info? ty).map (·.size) = some cs.size) :
    (results fn tmps).run P w = .ok (.tuple #[.agg cs, tmps.getD u undef]) w := by
  have hp' : tmps[p]?.getD undef = .pointer (some ⟨g, 0, none⟩) := by simpa using hp
  rw [results_cell_tmp h]
  simp [hp', asAddr, Result.andThen, run_loadVar_row w g t ty cs fr d hg hu hd hi]
theorem set5 {w : World} {g : Nat} {t : TypeId} {a b c d e : Value} (h : Blk w g t #[a, b, c, d, e]) (x0 x1 x2 x3 x4 : Value) :
    Blk (((((w.setCell ⟨g, 0, none⟩ x0).setCell ⟨g, 1, none⟩ x1).setCell ⟨g, 2, none⟩ x2).setCell ⟨g, 3, none⟩ x3).setCell ⟨g, 4, none⟩ x4) g t #[x0, x1, x2, x3, x4] := by
  simpa using ((((h.set 0 x0).set 1 x1).set 2 x2).set 3 x3).set 4 x4
theorem turn5 (w : World) (g : Nat) (x0 x1 x2 x3 x4 : Value) :
    Turn (fun j => j = g) w (((((w.setCell ⟨g, 0, none⟩ x0).setCell ⟨g, 1, none⟩ x1).setCell ⟨g, 2, none⟩ x2).setCell ⟨g, 3, none⟩ x3).setCell ⟨g, 4, none⟩ x4) :=
  ((((Turn.setCell w (fun j => j = g) ⟨g, 0, none⟩ x0 rfl).trans (Turn.setCell _ (fun j => j = g) ⟨g, 1, none⟩ x1 rfl) fun _ _ q => q).trans (Turn.setCell _ (fun j => j = g) ⟨g, 2, none⟩ x2 rfl) fun _ _ q => q).trans (Turn.setCell _ (fun j => j = g) ⟨g, 3, none⟩ x3 rfl) fun _ _ q => q).trans (Turn.setCell _ (fun j => j = g) ⟨g, 4, none⟩ x4 rfl) fun _ _ q => q
/-- A row's block is of another type than a block of that type. -/
theorem own_blk_ne {w : World} {b pp : Nat} {e t : TypeId} {size n : Nat} {v : Value} {xs : List Value} {cs : Array Value} (h : w.ownsRow b e size v n xs) (hb : Blk w pp t cs) (hne : t ≠ e) : ∀ j, v.ownBlock = some j → ¬ j = pp := by
  intro j hj e1
  subst e1
  rcases h.2 with ⟨rfl, _⟩ | ⟨g, cap, cur, rfl, _, hg, _⟩
  · cases hj
  · have k : g = j := Option.some.inj hj
    subst k
    unfold Blk at hb
    rw [hb] at hg
    injection hg with hg
    injection hg with _ ht _
    exact hne ht
/-- What wire.read keeps: its result, the reader, the parts. -/
structure WrAt (w wr : World) (g pp : Nat) (s : List UInt8) (a b n : Int) (u : Value) : Prop where
  res : Blk wr w.heap.size 150 #[.int .i64 0, .int .i64 0, .int .i64 0, .int .i64 0, .slice none 0 0]
  rd : RdAt wr g s
  parts : Blk wr pp 150 #[.int .i64 a, .int .i64 b, .int .i64 0, .int .i64 n, u]
  bel : Below w.heap.size w wr
  hg : w.heap.size < g
  hp : w.heap.size < pp
  ne : pp ≠ g
section
variable {w wr w' : World} {g pp : Nat} {s : List UInt8} {a b n : Int} {u : Value}
theorem WrAt.kept (h : WrAt w wr g pp s a b n u) (q : Below wr.heap.size wr w') : WrAt w w' g pp s a b n u :=
  ⟨h.res.kept q, h.rd.kept q, h.parts.kept q, h.bel.trans (q.mono h.bel.size), h.hg, h.hp, h.ne⟩
theorem WrAt.setR (h : WrAt w wr g pp s a b n u) (t : List UInt8) : WrAt w (wr.setCell ⟨g, 0, none⟩ (.string (str t))) g pp t a b n u :=
  ⟨h.res.off (p := ⟨g, 0, none⟩) (by have := h.hg; show w.heap.size ≠ g; omega) _, by have := h.rd.set 0 (.string (str t)); simpa using this, h.parts.off (p := ⟨g, 0, none⟩) h.ne _, h.bel.setCell (p := ⟨g, 0, none⟩) (by have := h.hg; show w.heap.size ≤ g; omega) _, h.hg, h.hp, h.ne⟩
theorem WrAt.setA (h : WrAt w wr g pp s a b n u) (x : Int) : WrAt w (wr.setCell ⟨pp, 0, none⟩ (.int .i64 x)) g pp s x b n u :=
  ⟨h.res.off (p := ⟨pp, 0, none⟩) (by have := h.hp; show w.heap.size ≠ pp; omega) _, h.rd.off (p := ⟨pp, 0, none⟩) (Ne.symm h.ne) _, by have := h.parts.set 0 (.int .i64 x); simpa using this, h.bel.setCell (p := ⟨pp, 0, none⟩) (by have := h.hp; show w.heap.size ≤ pp; omega) _, h.hg, h.hp, h.ne⟩
theorem WrAt.setB (h : WrAt w wr g pp s a b n u) (x : Int) : WrAt w (wr.setCell ⟨pp, 1, none⟩ (.int .i64 x)) g pp s a x n u :=
  ⟨h.res.off (p := ⟨pp, 1, none⟩) (by have := h.hp; show w.heap.size ≠ pp; omega) _, h.rd.off (p := ⟨pp, 1, none⟩) (Ne.symm h.ne) _, by have := h.parts.set 1 (.int .i64 x); simpa using this, h.bel.setCell (p := ⟨pp, 1, none⟩) (by have := h.hp; show w.heap.size ≤ pp; omega) _, h.hg, h.hp, h.ne⟩
theorem WrAt.setN (h : WrAt w wr g pp s a b n u) (x : Int) : WrAt w (wr.setCell ⟨pp, 3, none⟩ (.int .i64 x)) g pp s a b x u :=
  ⟨h.res.off (p := ⟨pp, 3, none⟩) (by have := h.hp; show w.heap.size ≠ pp; omega) _, h.rd.off (p := ⟨pp, 3, none⟩) (Ne.symm h.ne) _, by have := h.parts.set 3 (.int .i64 x); simpa using this, h.bel.setCell (p := ⟨pp, 3, none⟩) (by have := h.hp; show w.heap.size ≤ pp; omega) _, h.hg, h.hp, h.ne⟩
theorem WrAt.setU (h : WrAt w wr g pp s a b n u) (x : Value) : WrAt w (wr.setCell ⟨pp, 4, none⟩ x) g pp s a b n x :=
  ⟨h.res.off (p := ⟨pp, 4, none⟩) (by have := h.hp; show w.heap.size ≠ pp; omega) _, h.rd.off (p := ⟨pp, 4, none⟩) (Ne.symm h.ne) _, by have := h.parts.set 4 x; simpa using this, h.bel.setCell (p := ⟨pp, 4, none⟩) (by have := h.hp; show w.heap.size ≤ pp; omega) _, h.hg, h.hp, h.ne⟩
theorem WrAt.turned {t : List UInt8} (h : WrAt w wr g pp s a b n u) (q : Turn (fun j => j = g) wr w') (r : RdAt w' g t) : WrAt w w' g pp t a b n u :=
  ⟨h.res.turned q (by have := h.hg; omega), r, h.parts.turned q h.ne, h.bel.trans (q.below w.heap.size h.bel.size fun j hj e => by have := h.hg; omega), h.hg, h.hp, h.ne⟩
theorem WrAt.grown {v : Value} {k : Nat} {xs : List Value} (h : WrAt w wr g pp s a b n u) (hu : wr.ownsRow w.heap.size 67 2 v k xs) (q : wr.grownBy w' v.ownBlock) : WrAt w w' g pp s a b n u :=
  ⟨blk_other h.res hu q (by decide), blk_other h.rd hu q (by decide), blk_other h.parts hu q (by decide), h.bel.grown q h.bel.size fun k hk => (hu.lt k hk).1, h.hg, h.hp, h.ne⟩
theorem WrAt.cells (h : WrAt w wr g pp s a b n u) : wr.cell? ⟨pp, 0, none⟩ = some (.int .i64 a) ∧ wr.cell? ⟨pp, 1, none⟩ = some (.int .i64 b) ∧ wr.cell? ⟨pp, 2, none⟩ = some (.int .i64 0) ∧ wr.cell? ⟨pp, 3, none⟩ = some (.int .i64 n) ∧ wr.cell? ⟨pp, 4, none⟩ = some u ∧ pp < wr.heap.size ∧
    wr.frozen? ⟨pp, 0, none⟩ = false ∧ wr.frozen? ⟨pp, 1, none⟩ = false ∧ wr.frozen? ⟨pp, 3, none⟩ = false ∧ wr.frozen? ⟨pp, 4, none⟩ = false ∧ wr.cell? ⟨g, 0, none⟩ = some (.string (str s)) ∧ wr.cell? ⟨g, 1, none⟩ = some (.int .i64 0) ∧ g < wr.heap.size :=
  ⟨h.parts.cell 0, h.parts.cell 1, h.parts.cell 2, h.parts.cell 3, h.parts.cell 4, h.parts.lt, h.parts.free 0, h.parts.free 1, h.parts.free 3, h.parts.free 4, h.rd.cell 0, h.rd.cell 1, h.rd.lt⟩
end
set_option maxRecDepth 100000 in
set_option maxHeartbeats 2000000 in
theorem wire_read (L K S : Int) (l : List Nd) (w : World) (hc : Canon l) (hu : InU L l) (hL1 : 1 ≤ L) (hL2 : L ≤ 48) (hK1 : 1 ≤ K) (hK2 : K ≤ 1048576) (hS : sumL l = S) (hS2 : S ≤ 72057594037927935) (hroom : (l.length : Int) ≤ 8 * K) (hlen : l.length ≤ 5000) (hlight : lightB L (sumL l / K) l = true) :
    Calls Tryz.prog 102 #[.string (SealM.sealed (rawS L K l))] w fun e w' => ∃ v, e = .returned (.tuple #[.agg #[.int .i64 L, .int .i64 K, .int .i64 0, .int .i64 S, v], .int .i64 0]) ∧ w'.ownsRow w.heap.size 67 2 v l.length (ndv l) ∧ Below w.heap.size w w' := by
  have hs0 := sumL_nonneg l hc.cntL
  have hp48 := pw_le48 hL2
  have hbd : ∀ p ∈ l, 1 ≤ p.1 ∧ p.1 ≤ 9223372036854775807 := fun p hp => by have := hu p hp; omega
  have hraw := rawS_eq (L := L) (K := K) hc (by omega) (fun p hp => (hbd p hp).1)
  have hrl := rawL_len (L := L) (K := K) hc hbd (by omega) (by omega) (by omega) (by omega)
  have hO := seal_open (SealM.sealed (rawS L K l))
  rw [open_sealed, hraw] at hO
  rw [hraw]
  have hszs : (SealM.sealed (str (rawL L K l))).size ≤ maxLen := by rw [sealed_size, str_size]; unfold maxLen; omega
  have hO := fun W => hO W hszs
  simp only at hO
  replace hO := hide hO
  unfold rawL at hO hrl hszs ⊢
  rw [hS] at hO hrl hszs ⊢
  have hsL : ((UInt8.ofNat L.toNat).toNat : Int) = L := by rw [UInt8.toNat_ofNat']; omega
  generalize UInt8.ofNat L.toNat = bL at *
  have hkk : (K.toNat : Int) = K := by omega
  have hss : (S.toNat : Int) = S := by omega
  obtain ⟨n, hn⟩ : ∃ n, Hid (l.length = n) := ⟨_, rfl⟩
  obtain ⟨r4, hr4⟩ : ∃ r4, r4 = encL (l.map (·.2)) := ⟨_, rfl⟩
  obtain ⟨ids, hids⟩ : ∃ ids, ids = l.map (·.1) := ⟨_, rfl⟩
  have hil : l.length = ids.length := by rw [hids, List.length_map]
  rw [← hr4, ← hids, hil] at hO hrl ⊢
  rw [← hr4, ← hids, hil] at hszs
  obtain ⟨r3, hr3⟩ : ∃ r3, r3 = (enc ids.length ++ encL (rise 0 ids)) ++ r4 := ⟨_, rfl⟩
  rw [← hr3] at hO hrl hszs ⊢
  obtain ⟨r2, hr2⟩ : ∃ r2, r2 = enc S.toNat ++ r3 := ⟨_, rfl⟩
  rw [← hr2] at hO hrl hszs ⊢
  obtain ⟨r1, hr1⟩ : ∃ r1, r1 = enc K.toNat ++ r2 := ⟨_, rfl⟩
  rw [← hr1] at hO hrl hszs ⊢
  obtain ⟨r0, hr0⟩ : ∃ r0, r0 = [bL] ++ r1 := ⟨_, rfl⟩
  rw [← hr0] at hO hrl hszs ⊢
  have z0 : r0.length = 1 + r1.length := by rw [hr0, List.length_append]; rfl
  have z1 : r1.length = (enc K.toNat).length + r2.length := by rw [hr1, List.length_append]
  have z2 : r2.length = (enc S.toNat).length + r3.length := by rw [hr2, List.length_append]
  rw [List.length_append] at hrl
  obtain ⟨rr, hrr⟩ : ∃ rr, rr = [68, 87, 80, 1] ++ r0 := ⟨_, rfl⟩
  rw [← hrr] at hO ⊢
  have hRaw := hide (fun (g : Nat) W (h : RdAt W g rr) => wraw_c g 4 [68, 87, 80, 1] r0 W (by rw [← hrr]; exact h) rfl (by rw [List.length_append]; omega))
  have hBl : Hid (∀ (g : Nat) W, RdAt W g r0 → Calls Tryz.prog 153 #[.pointer (some ⟨g, 0, none⟩), lV g, .int .i64 1, .int .i64 48] W fun e w' => e = .returned (.int .i64 L) ∧ w' = W.setCell ⟨g, 0, none⟩ (.string (str r1))) := fun g W h => by
    have := wbet_l g bL r1 W (by rw [← hr0]; exact h) (by rw [List.length_append]; simp; omega) (by omega) (by omega)
    rw [hsL] at this
    exact this
  have hBK : Hid (∀ (g : Nat) W, RdAt W g r1 → Calls Tryz.prog 153 #[.pointer (some ⟨g, 0, none⟩), numV g, .int .i64 1, .int .i64 1048576] W fun e w' => e = .returned (.int .i64 K) ∧ w' = W.setCell ⟨g, 0, none⟩ (.string (str r2))) := fun g W h => by
    have := wbet_num g K.toNat 1 1048576 r2 W (by rw [← hr1]; exact h) (by omega) (by rw [List.length_append]; omega) (by omega) (by omega)
    rw [hkk] at this
    exact this
  have hBS : Hid (∀ (g : Nat) W, RdAt W g r2 → Calls Tryz.prog 153 #[.pointer (some ⟨g, 0, none⟩), numV g, .int .i64 0, .int .i64 72057594037927935] W fun e w' => e = .returned (.int .i64 S) ∧ w' = W.setCell ⟨g, 0, none⟩ (.string (str r3))) := fun g W h => by
    have := wbet_num g S.toNat 0 72057594037927935 r3 W (by rw [← hr2]; exact h) (by omega) (by rw [List.length_append]; omega) (by omega) (by omega)
    rw [hss] at this
    exact this
  have hF := hide (fun (g : Nat) (f : Int) W => wfail_no g f W)
  have hne4 : ((str [68, 87, 80, 1]).toList == [68, 87, 80, 1]) = true := by rw [ByteArray.toList_eq]; rfl
  generalize hM4 : str [68, 87, 80, 1] = M4 at *
  have hS0 : ∀ (W1 : World), Below (w.alloc (.cells #[.int .i64 0, .int .i64 0, .int .i64 0, .int .i64 0, .slice none 0 0] 150)).heap.size (w.alloc (.cells #[.int .i64 0, .int .i64 0, .int .i64 0, .int .i64 0, .slice none 0 0] 150)) W1 →
      WrAt w ((W1.alloc (.cells #[.string (str rr), .int .i64 0] 206)).alloc (.cells #[.int .i64 0, .int .i64 0, .int .i64 0, .int .i64 0, .slice none 0 0] 150)) W1.heap.size (W1.heap.size + 1) rr 0 0 0 (.slice none 0 0) := fun W1 hb => by
    have hz := hb.size
    simp only [World.size_alloc] at hz
    exact ⟨(((Blk.made w _ _).kept hb).alloc _).alloc _, (Blk.made W1 _ _).alloc _, Blk.made_at _ _ _ (by simp), balloc (balloc ((balloc0 w _).trans (hb.mono (by simp))) _) _, by omega, by omega, by omega⟩
  replace hS0 := hide hS0
  have hsz3 : r3.length ≤ 100000 := by omega
  have hlenc : Hid (∀ i, (encL ((l.drop i).map (·.2))).length ≤ 1000000 ∧ sumL (l.drop i) ≤ 72057594037927935) := fun i => by
    have h1 := encL_len ((l.drop i).map (·.2)) fun x hx => by
      obtain ⟨p, hp, rfl⟩ := List.mem_map.1 hx
      have := sumL_le l hc.cntL p (List.mem_of_mem_drop hp)
      omega
    have h2 : ((l.drop i).map (·.2)).length ≤ l.length := by rw [List.length_map, List.length_drop]; omega
    have h3 := sumL_append (l.take i) (l.drop i)
    rw [List.take_append_drop] at h3
    have h4 := sumL_nonneg (l.take i) fun p hp => hc.cntL p (List.mem_of_mem_take hp)
    exact ⟨by omega, by omega⟩
  have hup : ∀ x ∈ ids, x ≤ 9223372036854775807 ∧ rightB L x = true := fun x hx => by
    rw [hids] at hx
    obtain ⟨p, hp, rfl⟩ := List.mem_map.1 hx
    have h1 := hu p hp
    exact ⟨(hbd p hp).2, right_mk hL1 hL2 h1.1 h1.2⟩
  have hris : Rises 0 ids := by rw [hids]; exact rises_ids l 0 hc.rise fun p hp => by have := (hbd p hp).1; omega
  have hIds : Hid (∀ (g pp : Nat) (W : World) (cs : Array Value), RdAt W g r3 → Blk W pp 150 cs → cs[0]? = some (.int .i64 L) → pp ≠ g → Calls Tryz.prog 156 #[.pointer (some ⟨g, 0, none⟩), .int .i64 (8 * K), .func (.func 157) #[] #[.pointer (some ⟨pp, 0, none⟩)]] W fun e w' =>
      ∃ v, e = .returned v ∧ w'.ownsRow W.heap.size 3 1 v n (ids.map iv) ∧ RdAt w' g r4 ∧ Turn (fun j => j = g) W w') := fun g pp W cs h hp h0 hne => by
    have := wids_c g pp L (8 * K) cs ids r4 W (by rw [← hr3]; exact h) hp h0 hne (by omega) hris (fun x hx => (hup x hx).1) (fun x hx => (hup x hx).2) (by omega) (by omega) (by rw [← hr3]; exact hsz3)
    rw [show ids.length = n from hil.symm.trans hn.out] at this
    exact this
  clear hup hris hsz3
  replace hids := hide hids
  replace hil := hide hil
  replace hr4 := hide hr4
  replace hr3 := hide hr3
  replace hS := hide hS
  replace hlight := hide hlight
  replace hM4 := hide hM4
  replace hc := hide hc
  replace hu := hide hu
  clear hszs hrl hraw hr0 hr1 hr2 hbd hrr z0 z1 z2 hkk hss hsL hs0 hp48
  go_enter Tryz.func102, Tryz.ntmps102
  go_wp2_with fail
  refine Calls.mono (hO.out _) ?_
  rintro e w1 ⟨rfl, hb1⟩
  have hst := hide (hS0.out w1 hb1)
  clear hb1
  go_wp2_with fail
  generalize (w1.alloc (.cells #[.string (str rr), .int .i64 0] 206)).alloc (.cells #[.int .i64 0, .int .i64 0, .int .i64 0, .int .i64 0, .slice none 0 0] 150) = W2 at *
  obtain ⟨g, hg⟩ : ∃ g, w1.heap.size = g := ⟨_, rfl⟩
  obtain ⟨pp, hpp⟩ : ∃ pp, w1.heap.size + 1 = pp := ⟨_, rfl⟩
  rw [hpp, hg] at hst ⊢
  clear hpp hg
  refine Calls.mono (hRaw.out g _ hst.out.rd) ?_
  rintro e w3 ⟨rfl, rfl⟩
  have hst3 := hide (hst.out.setR r0)
  clear hst
  go_wp2_with fail
  generalize W2.setCell ⟨g, 0, none⟩ (.string (str r0)) = W3 at *
  refine Calls.mono (hF.out g _ _) ?_
  rintro e w4 ⟨⟨v4, rfl⟩, rfl⟩
  obtain ⟨a0, a1, a2, a3, a4, a5, a6, a7, a8, a9, a10, a11, a12⟩ := hst3.out.cells
  go_wp2_with fail
  refine Calls.mono (hBl.out g _ hst3.out.rd) ?_
  rintro e w4 ⟨rfl, rfl⟩
  have hst4 := hide (hst3.out.setR r1)
  clear hst3 a0 a1 a2 a3 a4 a5 a6 a7 a8 a9 a10 a11 a12
  generalize W3.setCell ⟨g, 0, none⟩ (.string (str r1)) = W4 at *
  obtain ⟨a0, a1, a2, a3, a4, a5, a6, a7, a8, a9, a10, a11, a12⟩ := hst4.out.cells
  go_wp2_with fail
  have hst5 := hide (hst4.out.setA L)
  clear hst4 a0 a1 a2 a3 a4 a5 a6 a7 a8 a9 a10 a11 a12
  generalize W4.setCell ⟨pp, 0, none⟩ (.int .i64 L) = W5 at *
  refine Calls.mono (hBK.out g _ hst5.out.rd) ?_
  rintro e w4 ⟨rfl, rfl⟩
  have hst6 := hide (hst5.out.setR r2)
  clear hst5
  generalize W5.setCell ⟨g, 0, none⟩ (.string (str r2)) = W6 at *
  obtain ⟨a0, a1, a2, a3, a4, a5, a6, a7, a8, a9, a10, a11, a12⟩ := hst6.out.cells
  go_wp2_with fail
  have hst7 := hide (hst6.out.setB K)
  clear hst6 a0 a1 a2 a3 a4 a5 a6 a7 a8 a9 a10 a11 a12
  generalize W6.setCell ⟨pp, 1, none⟩ (.int .i64 K) = W7 at *
  refine Calls.mono (hBS.out g _ hst7.out.rd) ?_
  rintro e w4 ⟨rfl, rfl⟩
  have hst8 := hide (hst7.out.setR r3)
  clear hst7
  generalize W7.setCell ⟨g, 0, none⟩ (.string (str r3)) = W8 at *
  obtain ⟨a0, a1, a2, a3, a4, a5, a6, a7, a8, a9, a10, a11, a12⟩ := hst8.out.cells
  go_wp2_with fail
  have hst9 := hide (hst8.out.setN S)
  clear hst8 a0 a1 a2 a3 a4 a5 a6 a7 a8 a9 a10 a11 a12
  generalize W8.setCell ⟨pp, 3, none⟩ (.int .i64 S) = W9 at *
  refine Calls.mono (hIds.out g pp _ _ hst9.out.rd hst9.out.parts rfl hst9.out.ne) ?_
  rintro e w10 ⟨v, rfl, hv, hrd10, ht10⟩
  obtain ⟨A, c, rfl, q1, q2, q3⟩ := own_form hv
  have hst10 := hide (hst9.out.turned ht10 hrd10)
  have hv10 := hide (own_low hst9.out.bel.size hv)
  clear hv hrd10 ht10 hst9
  go_wp2_with fail
  have hstart : Hid (WrAt w w10 g pp (encL ((l.drop 0).map (·.2))) L K S (.slice none 0 0)) := by rw [List.drop_zero, ← hr4.out]; exact hst10.out
  have hsum0 : Hid (S = sumL (l.drop 0)) := by show _ = _; rw [List.drop_zero, hS.out]
  have hNum := hide (fun (m : Nat) (least most : Int) (r : List UInt8) (W : World) (h : RdAt W g (enc m ++ r)) => wbet_num g m least most r W h)
  clear hst10
  go_loopw [8, 54] (fun lv kv wr => ∃ (i : Nat) (q : Int) (u : Value), kv = .int .i64 i ∧ i ≤ n ∧ lv = .int .i64 q ∧ Hid (q = sumL (l.drop i)) ∧ Hid (WrAt w wr g pp (encL ((l.drop i).map (·.2))) L K S u) ∧ Hid (wr.ownsRow w.heap.size 67 2 u i (ndv (l.take i))) ∧ Hid (wr.ownsRow w.heap.size 3 1 (.slice A n c) n (ids.map iv))) (fun _ kv _ => n - (intOf kv).toNat)
  case atStart => exact ⟨0, S, _, rfl, by omega, rfl, hsum0, hstart, World.ownsRow_nil _ _ _ _, hv10⟩
  case round =>
    obtain ⟨i, left, u, rfl, hi, rfl, hleft, hst, hrow, hidr⟩ := hrel
    clear hstart hsum0 hv10
    obtain ⟨Ao, co, rfl⟩ := own_len hrow.out
    by_cases hlt : i < n
    · have hil2 : i < l.length := by rw [hn.out]; exact hlt
      obtain ⟨b, off, rfl, hb, hcc⟩ := own_rd hidr.out (by omega)
      have hci : wr.cell? ⟨b, off + i, none⟩ = some (.int .i64 l[i].1) := by
        rw [hcc i (by omega)]
        show some ((ids.map iv).getD i undef) = _
        rw [hids.out]
        simp [hil2, iv]
      have hcp := hc.out.cnt l[i] (List.getElem_mem hil2)
      have hrest := sumL_nonneg (l.drop (i + 1)) fun p hp => hc.out.cntL p (List.mem_of_mem_drop hp)
      have hle : left ≤ 72057594037927935 := by rw [hleft.out]; exact (hlenc.out i).2
      have hdr : sumL (l.drop i) = l[i].2 + sumL (l.drop (i + 1)) := by rw [List.drop_eq_getElem_cons hil2]; rfl
      have hdm : encL ((l.drop i).map (·.2)) = enc l[i].2.toNat ++ encL ((l.drop (i + 1)).map (·.2)) := by rw [List.drop_eq_getElem_cons hil2, List.map_cons, encL_cons]
      have htk : Hid (ndv (l.take (i + 1)) = ndv (l.take i) ++ [.int .i64 l[i].1, .int .i64 l[i].2]) := by show _ = _; rw [List.take_succ_eq_append_getElem hil2, ndv_snoc]
      have hlc : left = l[i].2 + sumL (l.drop (i + 1)) := hleft.out.trans hdr
      have hst1 := hst.out
      rw [hdm] at hst1
      have hBc := hNum.out l[i].2.toNat 1 left (encL ((l.drop (i + 1)).map (·.2))) wr hst1.rd (by omega) (by rw [← hdm]; have := (hlenc.out i).1; omega) (by omega) (by omega)
      rw [show ((l[i].2.toNat : Nat) : Int) = l[i].2 by omega] at hBc
      replace hBc := hide hBc
      have hst2 := hide (hst1.setR (encL ((l.drop (i + 1)).map (·.2))))
      have hle2 : Hid (left - l[i].2 = sumL (l.drop (i + 1))) := by show _ = _; omega
      have hcl : l[i].2 ≤ left := by omega
      have hrdg := hide hst.out.rd
      clear hst hst1 hdm hdr hlc hcc hleft
      generalize l[i] = p at *
      obtain ⟨x, cnt⟩ := p
      simp only at hci hcp hBc hcl
      have hrow2 := hide (own_turnedB hrow.out (Turn.setCell wr (fun j => j = g) ⟨g, 0, none⟩ (.string (str (encL ((l.drop (i + 1)).map (·.2))))) rfl) (own_blk_ne hrow.out hrdg.out (by decide)))
      have hidr2 := hide (own_turnedB hidr.out (Turn.setCell wr (fun j => j = g) ⟨g, 0, none⟩ (.string (str (encL ((l.drop (i + 1)).map (·.2))))) rfl) (own_blk_ne hidr.out hrdg.out (by decide)))
      go_wp2_with fail
      refine Calls.mono hBc.out ?_
      rintro e w11 ⟨rfl, rfl⟩
      clear hci
      generalize wr.setCell ⟨g, 0, none⟩ (.string (str (encL ((l.drop (i + 1)).map (·.2))))) = W11 at *
      obtain ⟨-, -, -, -, b4, b5, -, -, -, -, -, -, b12⟩ := hst2.out.cells
      have howa := fun (o : Obj) => hrow2.out.alloc o
      replace howa := hide howa
      clear hrow2 hrow hidr
      go_wp2_with (at_builtin; refine wpList_app1 elNode rfl (.tmp 70) (.tmp 72) rfl w.heap.size _ _ _ [.int .i64 x, .int .i64 cnt] 67 rfl (howa.out _) (show Value.slice (some ⟨W11.heap.size + 1, 0, none⟩) 1 1 = .slice (some ⟨(W11.alloc _).heap.size, 0, none⟩) 1 1 from by simp) rfl (nd_ones (x, cnt)) (by omega) (by have := hst2.out.bel.size; simp; omega) ?_; intro v1 w1 how1 hb1 hgr1 hat1; obtain ⟨A1, c1, rfl⟩ := own_len how1; have how1 := hide how1; have hst4 := hide ((hst2.out.kept (balloc0 W11 _)).grown (howa.out _) hgr1); have hid4 := hide (own_other (hidr2.out.alloc _) (howa.out _) hgr1 (by decide)); clear hgr1 hat1 hb1 howa hst2 hidr2; obtain ⟨-, -, -, -, d4, d5, -, -, -, d9, -, d11, d12⟩ := hst4.out.cells)
      have hst5 := hide (hst4.out.setU (.slice A1 (i + 1) c1))
      have how5 := hide (own_turnedB how1.out (Turn.setCell w1 (fun j => j = pp) ⟨pp, 4, none⟩ (.slice A1 (i + 1) c1) rfl) (own_blk_ne how1.out hst4.out.parts (by decide)))
      have hid5 := hide (own_turnedB hid4.out (Turn.setCell w1 (fun j => j = pp) ⟨pp, 4, none⟩ (.slice A1 (i + 1) c1) rfl) (own_blk_ne hid4.out hst4.out.parts (by decide)))
      go_roundw
      case rel => exact ⟨i + 1, left - cnt, _, by go_num, by omega, rfl, hle2, hst5.out, by rw [htk.out]; exact how5.out, hid5.out⟩
      case measure => simp [intOf]; omega
    · obtain rfl : i = n := by omega
      have h0 : l.drop i = [] := List.drop_of_length_le (by rw [hn.out]; exact Nat.le_refl _)
      rw [h0] at hst hleft
      have hl0 : left = 0 := hleft.out
      subst hl0
      have hst1 : Hid (WrAt w wr g pp [] L K S (.slice Ao i co)) := hst.out
      have hrow1 : Hid (wr.ownsRow w.heap.size 67 2 (.slice Ao i co) i (ndv l)) := by
        have := hrow.out
        rw [List.take_of_length_le (by rw [hn.out]; exact Nat.le_refl _)] at this
        exact this
      clear hst hrow hleft hidr
      obtain ⟨b0, b1, b2, b3, b4, b5, -, -, -, -, b10, b11, b12⟩ := hst1.out.cells
      replace b10 : wr.cell? ⟨g, 0, none⟩ = some (.string ⟨#[]⟩) := b10
      have hPL := hide (pool_load 2 L Ao co l wr (by rw [hn.out]; exact own_rdn hrow1.out hn.out) (by omega) (TopM.wf_of hc.out hu.out hL2 (by rw [hS.out]; exact hS2)) (by simp [kindB, hL1, hL2]) (TopM.roll_of hL1 hL2 hc.out hu.out (by rw [hS.out]; exact hS2)))
      rw [hn.out] at hPL
      go_wp2_with fail
      refine Calls.mono (hF.out g _ _) ?_
      rintro e w12 ⟨⟨v12, rfl⟩, rfl⟩
      go_wp2_with fail
      refine Calls.mono (hF.out g _ _) ?_
      rintro e w12 ⟨⟨v13, rfl⟩, rfl⟩
      go_wp2_with fail
      refine Calls.mono hPL.out ?_
      rintro e w13 ⟨q, G, rfl, hp13, hq13, hG13, hb13⟩
      have hLt := hide (press_light q 2 L K l G w13 hp13 hK1 hK2)
      rw [hlight.out] at hLt
      have hst2 := hide (hst1.out.kept hb13)
      have hrow2 := hide (own_kept hrow1.out hb13)
      clear b0 b1 b2 b3 b4 b5 b10 b11 b12 hp13 hq13 hG13 hb13 hst1 hrow1
      obtain ⟨b0, b1, b2, b3, b4, b5, -, -, -, -, b10, b11, b12⟩ := hst2.out.cells
      go_wp2_with fail
      refine Calls.mono hLt.out ?_
      rintro e w14 ⟨rfl, hb14⟩
      have hst3 := hide (hst2.out.kept hb14)
      have hrow3 := hide (own_kept hrow2.out hb14)
      clear b0 b1 b2 b3 b4 b5 b10 b11 b12 hst2 hrow2 hb14
      obtain ⟨b0, b1, b2, b3, b4, b5, -, -, -, -, b10, b11, b12⟩ := hst3.out.cells
      have e0 := hst3.out.res.lt
      have f0 := hst3.out.res.free 0
      have f1 := hst3.out.res.free 1
      have f2 := hst3.out.res.free 2
      have f3 := hst3.out.res.free 3
      have f4 := hst3.out.res.free 4
      have k0 := hst3.out.res.cell 0
      have k1 := hst3.out.res.cell 1
      have k2 := hst3.out.res.cell 2
      have k3 := hst3.out.res.cell 3
      have k4 := hst3.out.res.cell 4
      go_wp2_with fail
      refine bodyPost_ret (results_row_tmp rfl _ _ w.heap.size 150 #[.int .i64 L, .int .i64 K, .int .i64 0, .int .i64 S, .slice Ao i co] (0, 0) _ rfl (set5 hst3.out.res _ _ _ _ _) Tryz.underlying150 rfl (by kernel_rfl)) rfl ?_
      have hT := turn5 w14 w.heap.size (.int .i64 L) (.int .i64 K) (.int .i64 0) (.int .i64 S) (.slice Ao i co)
      refine ⟨_, rfl, ?_, hst3.out.bel.trans (hT.below w.heap.size hst3.out.bel.size fun j hj e => by omega)⟩
      rw [show ids.length = i from hil.out.symm.trans hn.out]
      exact own_turnedB hrow3.out hT (own_blk_ne hrow3.out hst3.out.res (by decide))
end Go.Proofs.YteebghoijaaakaaGreat
/- The walk of wire.Decode: the digest of bytes that Encode wrote. By the prover of this repo. -/
namespace Go.Proofs.YteebghoijaaakaaGreat
open Go.RowKit
open TwigM RollM StoM VaryM WirM

set_option maxRecDepth 100000 in
set_option maxHeartbeats 1000000 in
theorem wire_decode (L K kd : Int) (l : List Nd) (w : World) (hc : Canon l) (hu : InU L l) (hL1 : 1 ≤ L) (hL2 : L ≤ 48) (hK1 : 1 ≤ K) (hK2 : K ≤ 1048576) (hS2 : sumL l ≤ 72057594037927935) (hroom : (l.length : Int) ≤ 8 * K) (hlen : l.length ≤ 5000) (hlight : lightB L (sumL l / K) l = true) (hld : loadB L K kd l = true) :
    Calls Tryz.prog 60 #[.string (SealM.sealed (rawS L K l)), .int .i64 kd] w fun e w' => ∃ d p F, e = .returned (.tuple #[.pointer (some ⟨d, 0, none⟩), .int .i64 0]) ∧ DigAt w' d p K kd L l F ∧ w.heap.size ≤ d ∧ w.heap.size ≤ p ∧ (∀ j, F j → w.heap.size ≤ j) ∧ Below w.heap.size w w' := by
  have hR := hide (wire_read L K (sumL l) l w hc hu hL1 hL2 hK1 hK2 rfl hS2 hroom hlen hlight)
  have hwf := TopM.wf_of hc hu hL2 hS2
  have hLd := hide (fun (A : Option Addr) (c : Nat) (W : World) (hr : Rd W A l.length 2 (ndc l)) => digest_load L K kd A c l W hr (by omega) hwf hld)
  obtain ⟨n, hn⟩ : ∃ n, Hid (l.length = n) := ⟨_, rfl⟩
  rw [hn.out] at hR hLd
  generalize sumL l = S at *
  generalize SealM.sealed (rawS L K l) = B at *
  clear hc hu hroom hlen hlight hld hwf
  unfold conf at hLd
  go_enter Tryz.func60, Tryz.ntmps60
  go_wp2_with fail
  refine Calls.mono hR.out ?_
  rintro e w1 ⟨v, rfl, hv, hb1⟩
  obtain ⟨A, c, rfl, q1, q2, q3⟩ := own_form hv
  have hz1 := hb1.size
  have hb2 := hide (balloc hb1 (.cells #[.int .i64 L, .int .i64 K, .int .i64 kd, .int .i64 S, .slice A n c] 150))
  have hv2 := hide (own_rdn (hv.alloc (.cells #[.int .i64 L, .int .i64 K, .int .i64 kd, .int .i64 S, .slice A n c] 150)) hn.out)
  clear hv hb1
  go_wp2_with fail
  refine Calls.mono (hLd.out _ _ _ hv2.out) ?_
  rintro e w3 ⟨d', p', G, rfl, hd3, y1, y2, y3, hb3⟩
  have hd3 := hide hd3
  have hb3 := hide hb3
  have y3 := hide y3
  go_wp2_with fail
  go_ret2
  have hzz := hb2.out.size
  exact ⟨d', p', G, rfl, hd3.out, Nat.le_trans hzz y1, Nat.le_trans hzz y2, fun j hj => Nat.le_trans hzz (y3.out j hj), hb2.out.trans (hb3.out.mono hzz)⟩
end Go.Proofs.YteebghoijaaakaaGreat
