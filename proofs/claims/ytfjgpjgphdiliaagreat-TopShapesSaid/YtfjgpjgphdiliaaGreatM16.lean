/- Part 16 of the proof: texts joined by this repo's tools/merge.py (Par Press PressR). By the prover of this repo. -/
import Derived.Test.YtfjgpjgphdiliaaGreatM15
import Derived.Deep.LoopGhost
set_option linter.unusedVariables false
set_option linter.unusedSimpArgs false
/- The parents of all nodes, in the order of folding. By the prover of this repo. -/
namespace Go.Proofs.YtfjgpjgphdiliaaGreat
open Go.RowKit Go.Shelf
open TwigM RollM StoM

attribute [local go_sem] Oper.semAt_some

theorem popsA_cons (f : Nat) (x : Int) (T : List Int) : popsA (f + 1) (x :: T) = x :: popsA f (popA (x :: T)) := rfl
/-- What an agenda's own blocks are not. -/
theorem AgdAt.foot_kind {w : World} {a m n : Nat} {v : Value} {h : List Int} (s : AgdAt w a m v h n) {k : Nat} (hk : foot a m v k) : k = m ∨ ∃ cur t fr, w.heap[k]? = some (Obj.cells cur t fr) ∧ t ≠ 76 := by
  rcases hk with rfl | rfl | e
  · exact .inr ⟨_, _, _, s.blk, by decide⟩
  · exact .inl rfl
  · rcases s.row.2 with ⟨rfl, _⟩ | ⟨g, cap, cur, rfl, _, hg, _⟩
    · cases e
    · have : g = k := Option.some.inj e
      subst this
      exact .inr ⟨_, _, _, hg, by decide⟩
theorem AgdAt.isMap {w : World} {a m n : Nat} {v : Value} {h : List Int} (s : AgdAt w a m v h n) : ∃ es clock, w.heap[m]? = some (Obj.map es clock) := by
  obtain ⟨D, ⟨es, clock, hb, _⟩, _⟩ := s.set
  exact ⟨es, clock, hb⟩
theorem agd_keepN {w w' : World} {a m n : Nat} {v : Value} {h : List Int} (s : AgdAt w a m v h n) (t : Turn (foot a m v) w w') : KeepN w w' := ⟨t.size, fun k cur fr e => by
  have hk : k < w.heap.size := (Array.getElem?_eq_some_iff.1 e).1
  rw [t.block k hk ?_]
  · exact e
  · intro hf
    rcases s.foot_kind hf with rfl | ⟨cur', ty, fr', e2, ht⟩
    · obtain ⟨es, clock, e2⟩ := s.isMap
      rw [e2] at e; cases e
    · rw [e2] at e
      injection e with e
      injection e with e3 e4 e5
      exact ht e4⟩
theorem agd_keepsFrom {w w' : World} {a m n B : Nat} {v : Value} {h : List Int} (s : AgdAt w a m v h n) (t : Turn (foot a m v) w w') (hm : m < B) : KeepsFrom B w w' := ⟨t.size, fun k o hB e ho => by
  have hk : k < w.heap.size := (Array.getElem?_eq_some_iff.1 e).1
  rw [t.block k hk ?_]
  · exact e
  · intro hf
    rcases s.foot_kind hf with rfl | ⟨cur', ty, fr', e2, ht⟩
    · omega
    · rw [e2] at e
      injection e with e
      subst e
      simp [Obj.isCells] at ho⟩
theorem agd_own {w w' : World} {a m n B : Nat} {v : Value} {h : List Int} {row : Option Nat} (s : AgdAt w a m v h n) (hg : w.grownBy w' row) (hr : ∀ r, row = some r → B ≤ r ∧ ∃ o : Obj, w.heap[r]? = some o ∧ o.isCells = false) (hm : m < B) : AgdAt w' a m v h n := by
  have t : Turn (fun j => row = some j) w w' := ⟨hg.os, hg.tape, hg.output, hg.size, fun k hk hn => hg.block k hk (fun e => hn e.symm)⟩
  refine s.turned t fun j hj e => ?_
  obtain ⟨h1, o, h2, h3⟩ := hr j e
  rcases s.foot_kind hj with rfl | ⟨cur', ty, fr', e2, ht⟩
  · omega
  · rw [h2] at e2
    injection e2 with e2
    subst e2
    simp [Obj.isCells] at h3
theorem keepN_put (W : World) (j : Nat) (o o' : Obj) (hj : W.heap[j]? = some o) (ho : o.isCells = false) : KeepN W (W.putObj j o') := ⟨by simp [World.putObj], fun k cur fr e => by
  have hne : k ≠ j := by
    rintro rfl
    rw [hj] at e
    injection e with e
    subst e
    simp [Obj.isCells] at ho
  have := (grownBy_putObj' W j o').block k (Array.getElem?_eq_some_iff.1 e).1 (fun q => hne (Option.some.inj q))
  rw [this]; exact e⟩
theorem blk_own {w w' : World} {g B : Nat} {t : TypeId} {cs : Array Value} {row : Option Nat} (b : Blk w g t cs) (hg : w.grownBy w' row) (hr : ∀ r, row = some r → B ≤ r ∧ ∃ o : Obj, w.heap[r]? = some o ∧ o.isCells = false) : Blk w' g t cs := by
  refine (hg.block g b.lt ?_).trans b
  intro e
  obtain ⟨_, o, h2, h3⟩ := hr g e.symm
  rw [show w.heap[g]? = some (Obj.cells cs t (0, 0)) from b] at h2
  injection h2 with h2
  subst h2
  simp [Obj.isCells] at h3
theorem below_own {w0 w w' : World} {B n : Nat} {row : Option Nat} (b : Below n w0 w) (hn : n ≤ w.heap.size) (hB : n ≤ B) (hg : w.grownBy w' row) (hr : ∀ r, row = some r → B ≤ r ∧ ∃ o : Obj, w.heap[r]? = some o ∧ o.isCells = false) : Below n w0 w' :=
  b.grown hg hn fun k e => by have := (hr k e).1; omega
theorem own_turnedB {w w' : World} {S : Nat → Prop} {e : TypeId} {base size n : Nat} {v : Value} {xs : List Value} (h : w.ownsRow base e size v n xs) (t : Turn S w w') (hn : ∀ k, v.ownBlock = some k → ¬ S k) : w'.ownsRow base e size v n xs := by
  have hlt := h.lt
  obtain ⟨h1, h2⟩ := h
  refine ⟨h1, ?_⟩
  rcases h2 with h2 | ⟨g, cap, cur, rfl, hb, hg, hr⟩
  · exact .inl h2
  · exact .inr ⟨g, cap, cur, rfl, hb, (t.block g (hlt g rfl).2 (hn g rfl)).trans hg, hr⟩
/-- What is kept while the parents are listed. -/
structure ParAt (w0 wr : World) (base bA D a m N : Nat) (v out : Value) (acc hh : List Int) : Prop where
  row : wr.ownsRow base 3 1 out acc.length (hv acc)
  agd : AgdAt wr a m v hh N
  ft : ∀ j, foot a m v j → base ≤ j ∧ j ≠ bA ∧ j ≠ D
  own : out.ownBlock ≠ some bA ∧ out.ownBlock ≠ some D ∧ ∀ j, foot a m v j → out.ownBlock ≠ some j
  box : Blk wr bA 146 #[.pointer (some ⟨a, 0, none⟩)]
  dfr : wr.heap[D]? = some (.deferred (some []))
  low : Below base w0 wr
theorem ParAt.pop {w0 wr w3 : World} {base bA D a m N : Nat} {v v3 out : Value} {x : Int} {acc T : List Int} (s : ParAt w0 wr base bA D a m N v out acc (x :: T)) (hb : base ≤ wr.heap.size)
    (h1 : AgdAt w3 a m v3 (popA (x :: T)) N) (h2 : Turn (foot a m v) wr w3) (h3 : v3.ownBlock = v.ownBlock) : ParAt w0 w3 base bA D a m N v3 out acc (popA (x :: T)) := by
  have hf : ∀ j, foot a m v3 j ↔ foot a m v j := fun j => by unfold foot; rw [h3]
  have hDl : D < wr.heap.size := (Array.getElem?_eq_some_iff.1 s.dfr).1
  refine ⟨own_turnedB s.row h2 fun k hk hj => s.own.2.2 k hj hk, h1, fun j hj => s.ft j ((hf j).1 hj), ⟨s.own.1, s.own.2.1, fun j hj => s.own.2.2 j ((hf j).1 hj)⟩, s.box.turned h2 fun k => (s.ft _ k).2.1 rfl, (h2.block D hDl fun k => (s.ft _ k).2.2 rfl).trans s.dfr, s.low.trans (h2.below base hb fun j hj k => absurd (s.ft j k).1 (by omega))⟩
theorem ParAt.app {w0 w3 w4 : World} {base bA D a m N : Nat} {v out out4 : Value} {x : Int} {acc hh : List Int} (s : ParAt w0 w3 base bA D a m N v out acc hh) (hb : base ≤ w3.heap.size)
    (how : w4.ownsRow base 3 1 out4 (acc.length + 1) (hv acc ++ [.int .i64 x])) (hgr : w3.grownBy w4 out.ownBlock) (hat : out4.ownBlock = out.ownBlock ∨ out4.ownBlock = some (w3.heap.size + 1)) : ParAt w0 w4 base bA D a m N v out4 (acc ++ [x]) hh := by
  have t := grown_own hgr
  have hDl : D < w3.heap.size := (Array.getElem?_eq_some_iff.1 s.dfr).1
  have hbl := s.box.lt
  have e1 : (acc ++ [x]).length = acc.length + 1 := by simp
  have e2 : hv (acc ++ [x]) = hv acc ++ [.int .i64 x] := by simp [hv]
  have hne : ∀ j, j < w3.heap.size → out.ownBlock ≠ some j → out4.ownBlock ≠ some j := fun j hj hn e => by
    rcases hat with k | k
    · exact hn (k ▸ e)
    · rw [k] at e
      have := Option.some.inj e
      omega
  refine ⟨by rw [e1, e2]; exact how, s.agd.turned t fun j hj => s.own.2.2 j hj, s.ft, ⟨hne _ hbl s.own.1, hne _ hDl s.own.2.1, fun j hj => hne j (s.agd.lt j hj) (s.own.2.2 j hj)⟩, s.box.turned t s.own.1, (t.block D hDl s.own.2.1).trans s.dfr, s.low.trans (t.below base hb fun j hj k => absurd (s.row.lt j k).1 (by omega))⟩
theorem puts_snoc (l : List Int) (x : Int) : putsA [] (l ++ [x]) = putA (putsA [] l) x := by unfold putsA; rw [List.foldl_append]; rfl
set_option maxRecDepth 100000 in
set_option maxHeartbeats 2000000 in
theorem fold_parents (p : Nat) (kd L : Int) (l : List Nd) (F : Nat → Prop) (w : World) (h : PoolAt w p kd L l F) :
    Calls Tryz.prog 113 #[.pointer (some ⟨p, 0, none⟩)] w fun e w' => ∃ v, e = .returned v ∧ w'.ownsRow w.heap.size 3 1 v (parF l).length (hv (parF l)) ∧ Below w.heap.size w w' := by
  have hU := asU_map l h.allU
  have hUl : (asU l h.allU).length = l.length := by have := congrArg List.length hU; rwa [List.length_map] at this
  generalize asU l h.allU = U at *
  have hlen := h.len
  obtain ⟨R, hR0⟩ : ∃ R, Hid (parF l = R) := ⟨_, rfl⟩
  rw [hR0.out]
  have hh := hide h
  clear h
  have hnil : ∀ (x : Option Addr) (W : World), (binOp BinOp.eql 156 (.func (.func 140) #[] #[.pointer x]) .nilFunc).run Tryz.prog W = .ok (.bool false) W := fun _ _ => by kernel_rfl
  have hN := hide (agd_new none 0 [] w (Rd.zero _ _ _ _) (by simp) (by simp))
  refine (callsIn_wide (n := 9)).1 ?_
  refine callsIn_of_wp_marks Tryz.func113 rfl trivial ?_ rfl
  simp only [Tryz.ntmps113, List.size_toArray, List.length_cons, List.length_nil, Nat.reduceAdd, Nat.reduceSub, Array.replicate_succ, Array.replicate_zero, List.push_toArray, List.append_toArray, List.nil_append, List.cons_append]
  refine wpIn_wide.2 ?_
  go_wp2_with fail
  refine Calls.mono hN.out ?_
  rintro e w1 ⟨a, m, v, rfl, hag, hft, hb1⟩
  have hag := hide hag
  have hft := hide hft
  have hb1 := hide hb1
  go_wp2_with fail
  refine Calls.mono (pool_each _ _) ?_
  rintro e w2 ⟨rfl, rfl⟩
  go_wp2_with fail
  have bA : Blk ((w1.alloc (.cells #[.pointer (some ⟨a, 0, none⟩)] 146)).alloc (.cells #[.pointer (some ⟨p, 0, none⟩)] 48)) w1.heap.size 146 #[.pointer (some ⟨a, 0, none⟩)] := (Blk.made w1 _ _).alloc _
  have bE : Blk ((w1.alloc (.cells #[.pointer (some ⟨a, 0, none⟩)] 146)).alloc (.cells #[.pointer (some ⟨p, 0, none⟩)] 48)) (w1.heap.size + 1) 48 #[.pointer (some ⟨p, 0, none⟩)] := Blk.made_at _ _ _ (by simp)
  have hB1 : Below w1.heap.size w1 ((w1.alloc (.cells #[.pointer (some ⟨a, 0, none⟩)] 146)).alloc (.cells #[.pointer (some ⟨p, 0, none⟩)] 48)) := balloc (balloc0 w1 _) _
  have hag2 := hag.out.turned (Below.turn hB1 fun _ => False) fun _ _ k => k
  have hal := hag.out.lt
  have hsz := hb1.out.size
  have hB2 := hb1.out.trans (hB1.mono hsz)
  have hP2 := hh.out.kept hB2
  have hWs : ((w1.alloc (.cells #[.pointer (some ⟨a, 0, none⟩)] 146)).alloc (.cells #[.pointer (some ⟨p, 0, none⟩)] 48)).heap.size = w1.heap.size + 2 := by simp
  generalize ((w1.alloc (.cells #[.pointer (some ⟨a, 0, none⟩)] 146)).alloc (.cells #[.pointer (some ⟨p, 0, none⟩)] 48)) = W2 at *
  have hst := pool_stops (9 - 1) (by omega) (w1.heap.size + 1) p kd L l F U hU W2 (by omega) (bE.cell 0) hP2
  clear hP2 bE hag
  have hma : m < w1.heap.size := hal m (.inr (.inl rfl))
  refine (wpIn_wide (n := 9)).1 ?_
  refine wpIn_rangeFunc_ownG (n := 9) rfl (by omega) (gf := 140) (lb := #[.pointer (some ⟨w1.heap.size + 1, 0, none⟩)]) rfl trivial (enters_of Tryz.func140 (by kernel_rfl) rfl)
    hst KeepN.trans (fun W j o o' _ hj ho _ => keepN_put W j o o' hj ho) (Below.refl _ _) (fun _ => rfl)
    (fun pre W => (∃ v, AgdAt W a m v (putsA [] (pre.map fun q => q.1.1 / 2)) pre.length ∧ ∀ j, foot a m v j → w.heap.size ≤ j ∧ j ≠ w1.heap.size) ∧ Blk W w1.heap.size 146 #[.pointer (some ⟨a, 0, none⟩)] ∧ Below w.heap.size w W)
    (fun _ _ _ => False)
    (fun pre A B row hs hg hr => ⟨⟨hs.1.choose, agd_own hs.1.choose_spec.1 hg hr (by omega), hs.1.choose_spec.2⟩, blk_own hs.2.1 hg hr, below_own hs.2.2 hs.2.2.size (by omega) hg hr⟩)
    (fun _ _ _ _ _ hs _ _ => hs)
    ⟨⟨v, hag2, fun j hj => ⟨hft.out j hj, by have := hal j hj; omega⟩⟩, bA, hB2⟩
    (fun x => { tmps := ((.pointer (some ⟨p, 0, none⟩) : Value) :: undef :: (.slice none 0 0 : Value) :: (.pointer (some ⟨w1.heap.size, 0, none⟩) : Value) :: (.int .i64 x.1.1 : Value) :: undef :: undef :: undef :: (.pointer (some ⟨a, 0, none⟩) : Value) :: (.pointer (some ⟨p, 0, none⟩) : Value) :: (.func (.func 140) #[] #[.pointer (some ⟨w1.heap.size + 1, 0, none⟩)] : Value) :: (.int .i64 x.1.1 : Value) :: (.int .i64 x.1.2 : Value) :: undef :: undef :: undef :: undef :: undef :: undef :: undef :: undef :: undef :: undef :: undef :: undef :: undef :: undef :: undef :: undef :: undef :: []).toArray, defers := [] }) ?assign ?body ?done ?stop
  case assign =>
    intro l x W K hK
    dsimp only [encN]
    gi_wp2
    exact hK
  case body =>
    rintro lp pre x W ⟨⟨v1, hv1, hf1⟩, hbA, hB⟩ hlt
    have cA := hbA.cell 0
    obtain ⟨⟨y, cnt⟩, hx⟩ := x
    have hlp := puts_len0 (pre.map fun q => q.1.1 / 2)
    rw [List.length_map] at hlp
    simp only [] at hx ⊢
    have hPt := hide (agd_put a m pre.length v1 (putsA [] (pre.map fun q => q.1.1 / 2)) (y / 2) W hv1 (by omega) (by omega) (by omega))
    have hsn : Hid (putsA [] ((pre ++ [(⟨(y, cnt), hx⟩ : NdU)]).map fun q => q.1.1 / 2) = putA (putsA [] (pre.map fun q => q.1.1 / 2)) (y / 2)) := by
      show _ = _
      rw [List.map_append]; exact puts_snoc _ _
    rw [← hsn.out] at hPt
    have hln : Hid ((pre ++ [(⟨(y, cnt), hx⟩ : NdU)]).length = pre.length + 1) := by show _ = _; rw [List.length_append]; rfl
    rw [← hln.out] at hPt
    have hlW := hbA.lt
    have hv1 := hide hv1
    have hf1 := hide hf1
    have hbA := hide hbA
    have hB := hide hB
    gi_wp2_with (refine ⟨trivial, ?_⟩; (gi_at_call 118; refine (CallsIn.inRound lp (callsIn_wide.2 hPt.out)).mono ?_; rintro e w5 ⟨⟨b, rfl⟩, v', h1, h2, h3⟩))
    refine ⟨agd_keepsFrom hv1.out h2 (by omega), agd_keepN hv1.out h2, ⟨v', h1, fun j hj => ?_⟩, hbA.out.turned h2 (fun k => (hf1.out _ k).2 rfl), hB.out.trans (h2.below _ hB.out.size fun j hj k => absurd (hf1.out j k).1 (by omega))⟩
    have hBs := hB.out.size
    rcases h3 j hj with k | k
    · exact hf1.out j k
    · omega
  case done =>
    rintro D ys W hD hys ⟨⟨v1, hv1, hf1⟩, hbA, hB⟩ hK
    subst hys
    have hL0 : (ys.map fun q => q.1.1 / 2) = l.map fun q => q.1 / 2 := by rw [← hU, List.map_map]; rfl
    rw [hL0] at hv1
    have hR : Hid (popsA (putsA [] (l.map fun q => q.1 / 2)).length (putsA [] (l.map fun q => q.1 / 2)) = R) := hR0.out
    have hlp := puts_len0 (l.map fun q => q.1 / 2)
    rw [List.length_map] at hlp
    obtain ⟨H0, hH0⟩ : ∃ H0, putsA [] (l.map fun q => q.1 / 2) = H0 := ⟨_, rfl⟩
    rw [hH0] at hv1 hlp hR
    obtain ⟨N0, hN0⟩ : ∃ N0, ys.length = N0 := ⟨_, rfl⟩
    rw [hN0] at hv1
    have cA := hbA.cell 0
    have hDW : D < W.heap.size := (Array.getElem?_eq_some_iff.1 hK).1
    have hfD : ∀ j, foot a m v1 j → j ≠ D := by
      rintro j hj rfl
      rcases hv1.foot_kind hj with rfl | ⟨cur, t, fr, e2, _⟩
      · omega
      · rw [hK] at e2; cases e2
    have hbAH := hide hbA
    have hBs := hB.size
    have hBH := hide hB
    have hv1H := hide hv1
    have hf1H := hide hf1
    have hfDH := hide hfD
    have hKH := hide hK
    have hAlt := hbA.lt
    clear hst hag2 hB1 bA hB2 hU hL0 hH0 hN0 hv1 hf1 hbA hB hfD hK
    go_wp2_with fail
    go_loopw [5] (fun out wr => ∃ (acc hh : List Int) (f : Nat) (v1 : Value), Hid (ParAt w wr w.heap.size w1.heap.size D a m N0 v1 out acc hh) ∧ acc.length + f ≤ 1000000 ∧ Hid (hh.length ≤ f) ∧ Hid (acc ++ popsA f hh = R)) (fun out _ => 1000000 - (match out with | .slice _ n _ => n | _ => 0))
    case atStart =>
      exact ⟨[], H0, H0.length, v1, ⟨World.ownsRow_nil _ _ _ _, hv1H.out, fun j hj => ⟨(hf1H.out j hj).1, (hf1H.out j hj).2, hfDH.out j hj⟩, ⟨by simp [Value.ownBlock], by simp [Value.ownBlock], fun j _ => by simp [Value.ownBlock]⟩, hbAH.out, hKH.out, hBH.out⟩, by simp; omega, Nat.le_refl _, hR⟩
    case round =>
      obtain ⟨acc, hh, f, v2, hpa, haf, hlf, hpop⟩ := hrel
      clear hbAH hBH hv1H hf1H hfDH hKH hR cA
      have cA := hpa.out.box.cell 0
      obtain ⟨A, c, rfl, hA1, hc1, hc2⟩ := own_form hpa.out.row
      have hL := hide (agd_len a m N0 v2 hh wr hpa.out.agd)
      have hbw := hpa.out.low.size
      cases hh with
      | nil =>
        have hacc : Hid (acc = R) := by
          have := hpop.out
          show _ = _
          rw [← this]
          cases f <;> simp [popsA]
        clear hpop hlf
        go_wp2_with fail
        refine Calls.mono hL.out ?_
        rintro e w3 ⟨rfl, rfl⟩
        go_wp2_with fail
        refine ⟨by simp, .inl ⟨_, _, rfl, run_takeDeferred hpa.out.dfr, ?_⟩⟩
        refine ⟨_, results_tmp Tryz.results113 _ _ _, _, rfl, ?_⟩
        have hDw : w.heap.size ≤ D := by omega
        have t := grown_turn (grownBy_putObj' wr D (.deferred none))
        have hrw := own_turnedB hpa.out.row t fun k hk e => hpa.out.own.2.1 (e ▸ hk)
        have hlow := hpa.out.low.trans (t.below w.heap.size hbw fun j hj e => by omega)
        rw [hacc.out] at hrw
        refine ⟨?_, hlow⟩
        have : (Value.slice A acc.length c) = (Value.slice A R.length c) := by rw [hacc.out]
        rw [← hacc.out] at hrw ⊢
        exact hrw
      | cons x T =>
        have hP := hide (agd_pop a m N0 v2 x T wr hpa.out.agd)
        obtain ⟨f0, hf0⟩ : ∃ f0, f = f0 + 1 := ⟨f - 1, by have := hlf.out; rw [List.length_cons] at this; omega⟩
        subst hf0
        have hnext : Hid ((acc ++ [x]) ++ popsA f0 (popA (x :: T)) = R) := by
          have := hpop.out
          rw [popsA_cons] at this
          show _ = _
          rw [← this, List.append_assoc]; rfl
        have hpl : Hid ((popA (x :: T)).length ≤ f0) := by
          have h1 := (popA_perm x T).length_eq
          have h2 := hlf.out
          rw [List.length_cons] at h2
          show _ ≤ _
          omega
        have hlp : (0 : Int) < (((x :: T).length : Nat) : Int) := by simp only [List.length_cons]; omega
        clear hpop hlf
        obtain ⟨n2, hn2⟩ : ∃ n2, (x :: T).length = n2 := ⟨_, rfl⟩
        rw [hn2] at hL hlp
        clear hn2
        obtain ⟨na, hna⟩ : ∃ na, Hid (acc.length = na) := ⟨_, rfl⟩
        rw [hna.out] at haf hA1 hc1
        go_wp2_with fail
        refine Calls.mono hL.out ?_
        rintro e w3 ⟨rfl, rfl⟩
        go_wp2_with fail
        refine Calls.mono hP.out ?_
        rintro e w3 ⟨rfl, v3, h1, h2, h3⟩
        have hs3 := h2.size
        have hb3 : w.heap.size ≤ w3.heap.size := by omega
        have hpa3 := hide (hpa.out.pop hbw h1 h2 h3)
        have hrow3 := hide hpa3.out.row
        clear h1 h2 h3
        go_wp2_with (at_builtin; refine wpList_app1 elIntA rfl (.tmp 25) (.tmp 27) rfl w.heap.size _ _ _ [.int .i64 x] 3 rfl hrow3.out rfl rfl (one1 rfl) (by rw [hna.out]; omega) hb3 ?_; intro v4 w4 how4 hb4 hgr4 hat4; have hpa4 := hide (hpa3.out.app hb3 how4 hgr4 hat4); clear how4 hb4 hgr4 hat4)
        go_roundw
        case rel => exact ⟨acc ++ [x], popA (x :: T), f0, v3, hpa4, by rw [List.length_append, hna.out]; simp; omega, hpl, hnext⟩
        case measure =>
          obtain ⟨A4, c4, rfl, -, -, -⟩ := own_form hpa4.out.row
          simp [hna.out]
          omega
  case stop =>
    rintro D c pre W _ _ h _
    exact h.elim
end Go.Proofs.YtfjgpjgphdiliaaGreat
/- A store, folded as far as it may be. By the prover of this repo. -/
namespace Go.Proofs.YtfjgpjgphdiliaaGreat
open Go.RowKit
open TwigM RollM StoM

/-- What is kept while a store is folded. -/
structure RunAt (w0 wr : World) (p a m nb N : Nat) (v : Value) (kd L : Int) (lc : List Nd) (hc : List Int) (F0 F : Nat → Prop) (z : Int) : Prop where
  pool : PoolAt wr p kd L lc F
  agd : AgdAt wr a m v hc N
  fresh : ∀ j, foot a m v j → w0.heap.size ≤ j
  old : ∀ j, F j → F0 j ∨ w0.heap.size ≤ j
  apart : ∀ j, F j → ¬ foot a m v j
  low : Turn (fun j => F0 j ∨ j = nb) w0 wr
  pn : p < w0.heap.size
  nbl : nb < w0.heap.size
  nbF : ¬ F nb
  nbp : nb ≠ p
  box : Blk wr nb 3 #[.int .i64 z]
section
variable {w0 wr w3 : World} {p a m nb N N' : Nat} {v v3 : Value} {kd L : Int} {lc l' : List Nd} {hc h' : List Int} {F0 F F' : Nat → Prop} {z : Int}
theorem RunAt.agenda (s : RunAt w0 wr p a m nb N v kd L lc hc F0 F z) (h1 : AgdAt w3 a m v3 h' N') (t : Turn (foot a m v) wr w3) (hf : ∀ j, foot a m v3 j → foot a m v j ∨ wr.heap.size ≤ j) : RunAt w0 w3 p a m nb N' v3 kd L lc h' F0 F z := by
  have hs := s.low.size
  have hp : ¬ foot a m v p := fun k => by have := s.fresh p k; have := s.pn; omega
  have hnb : ¬ foot a m v nb := fun k => by have := s.fresh nb k; have := s.nbl; omega
  have hFl := s.pool.lt.2
  refine ⟨s.pool.turned t hp s.apart, h1, fun j hj => ?_, s.old, fun j hj k => ?_, s.low.trans t fun j hj k => absurd (s.fresh j k) (by omega), s.pn, s.nbl, s.nbF, s.nbp, s.box.turned t hnb⟩
  · rcases hf j hj with k | k
    · exact s.fresh j k
    · omega
  · rcases hf j k with k | k
    · exact s.apart j hj k
    · have := hFl j hj; omega
theorem RunAt.fold (s : RunAt w0 wr p a m nb N v kd L lc hc F0 F z) (h1 : PoolAt w3 p kd L l' F') (t : Turn F wr w3) (hf : ∀ j, F' j → F j ∨ wr.heap.size ≤ j) : RunAt w0 w3 p a m nb N v kd L l' hc F0 F' z := by
  have hs := s.low.size
  have hal := s.agd.lt
  refine ⟨h1, s.agd.turned t fun j hj k => s.apart j k hj, s.fresh, fun j hj => ?_, fun j hj k => ?_, s.low.trans t fun j hj k => ?_, s.pn, s.nbl, fun k => ?_, s.nbp, s.box.turned t s.nbF⟩
  · rcases hf j hj with k | k
    · exact s.old j k
    · right; omega
  · rcases hf j hj with q | q
    · exact s.apart j q k
    · have := hal j k; omega
  · rcases s.old j k with q | q
    · exact .inl q
    · omega
  · rcases hf nb k with q | q
    · exact s.nbF q
    · have := s.nbl; omega
theorem RunAt.same (s : RunAt w0 wr p a m nb N v kd L lc hc F0 F z) (hb : Below wr.heap.size wr w3) : RunAt w0 w3 p a m nb N v kd L lc hc F0 F z :=
  ⟨s.pool.kept hb, s.agd.turned (Below.turn hb fun _ => False) fun _ _ k => k, s.fresh, s.old, s.apart, s.low.trans (Below.turn hb _) fun _ _ k => k, s.pn, s.nbl, s.nbF, s.nbp, s.box.kept hb⟩
theorem RunAt.tick (s : RunAt w0 wr p a m nb N v kd L lc hc F0 F z) (z' : Int) : RunAt w0 (wr.setCell ⟨nb, 0, none⟩ (.int .i64 z')) p a m nb N v kd L lc hc F0 F z' := by
  have t := Turn.setCell wr (fun j => j = nb) ⟨nb, 0, none⟩ (.int .i64 z') rfl
  have hnb : ¬ foot a m v nb := fun k => by have := s.fresh nb k; have := s.nbl; omega
  have hbx := s.box.set 0 (.int .i64 z')
  exact ⟨s.pool.turned t (fun k => s.nbp k.symm) fun j hj k => s.nbF (k ▸ hj), s.agd.turned t fun j hj k => hnb (k ▸ hj), s.fresh, s.old, s.apart, s.low.trans t fun j _ k => .inr k, s.pn, s.nbl, s.nbF, s.nbp, by simpa using hbx⟩
end
theorem told_c (nb : Nat) (x z : Int) (w : World) (hb : Blk w nb 3 #[.int .i64 z]) (hz : -9223372036854775808 ≤ z + 1) (hz2 : z + 1 ≤ 9223372036854775807) :
    Calls Tryz.prog 86 #[.int .i64 x, .pointer (some ⟨nb, 0, none⟩)] w fun e w' => (∃ v, e = .returned v) ∧ w' = w.setCell ⟨nb, 0, none⟩ (.int .i64 (z + 1)) := by
  have c0 := hb.cell 0
  have f0 := hb.free 0
  clear hb
  go_enter Tryz.func86, Tryz.ntmps86
  go_wp2_with fail
  go_end0
  exact ⟨⟨_, rfl⟩, rfl⟩
theorem runF_nil (L m : Int) (f : Nat) (l : List Nd) : runF L m f l [] = (l, 0) := by cases f <;> rfl
set_option maxRecDepth 100000 in
set_option maxHeartbeats 4000000 in
theorem press_run (p nb : Nat) (kd L K : Int) (l : List Nd) (F : Nat → Prop) (w : World) (h : PoolAt w p kd L l F) (hK : 1 ≤ K) (hK2 : K ≤ 1048576) (hms : meas l (startF l) ≤ 10000000) (hb : Blk w nb 3 #[.int .i64 0]) (hnF : ¬ F nb) (hnp : nb ≠ p) :
    Calls Tryz.prog 85 #[.pointer (some ⟨p, 0, none⟩), .int .i64 K, .func (.func 86) #[] #[.pointer (some ⟨nb, 0, none⟩)]] w fun e w' => (∃ v, e = .returned v) ∧ ∃ F', PoolAt w' p kd L (pressF L K l).1 F' ∧ Blk w' nb 3 #[.int .i64 ((pressF L K l).2 : Int)] ∧ Turn (fun j => F j ∨ j = nb) w w' ∧ ∀ j, F' j → F j ∨ w.heap.size ≤ j := by
  obtain ⟨hL1, hL2⟩ := h.uni
  have hp48 := pw_le48 hL2
  have hT := hide (pool_total p kd L l F w h)
  have hC := hide (fun W => cap_c (sumL l) K W (sumL_nonneg l h.canon.cntL) hK h.sum (by omega))
  have hP := hide (fun W (hW : Below w.heap.size w W) => fold_parents p kd L l F W (h.kept hW))
  have hll := h.len
  have hpl := parF_len l
  have hpb : ∀ x ∈ parF l, x ≤ 1152921504606846976 := fun x hx => by
    obtain ⟨⟨q, hq, e⟩, _⟩ := (parF_mem l x).1 hx
    have := (h.inU q hq).2
    omega
  have hstl := startF_len l
  have hh := hide h
  have hF : pressF L K l = runF L (sumL l / K) (meas l (startF l)) l (startF l) := rfl
  obtain ⟨RC, hRC⟩ : ∃ RC, Hid (pressF L K l = RC) := ⟨_, rfl⟩
  rw [hRC.out]
  rw [hRC.out] at hF
  replace hF := hide hF
  have hbl := hb.lt
  have hpw := h.lt.1
  have hFl := h.lt.2
  have hbH := hide hb
  clear h hb
  generalize hmm : sumL l / K = most at *
  go_enter Tryz.func85, Tryz.ntmps85
  go_wp2_with fail
  refine Calls.mono hT.out ?_
  rintro e w1 ⟨rfl, hb1⟩
  have hb1 := hide hb1
  go_wp2_with fail
  refine Calls.mono (hC.out _) ?_
  rintro e w2 ⟨rfl, rfl⟩
  go_wp2_with fail
  refine Calls.mono (hP.out _ hb1.out) ?_
  rintro e w2 ⟨v, rfl, hv, hb2⟩
  obtain ⟨A, c, rfl, hA, hc1, hc2⟩ := own_form hv
  have hbs1 := hb1.out.size
  have hb2 := hide (hb1.out.trans (hb2.mono hbs1))
  have hr : Rd w2 A (parF l).length 1 (inc (parF l)) := (own_rd hv).congr fun i hi => by
    unfold inc
    rw [List.getD_eq_getElem?_getD, hv_get _ _ (by omega)]; rfl
  have hA := hide (agd_new A c (parF l) w2 hr (by omega) hpb)
  have hhP := hide (fun W (hW : Below w.heap.size w W) => hh.out.kept hW)
  clear hv hr hP hT hpb hpl
  go_wp2_with fail
  refine Calls.mono hA.out ?_
  rintro e w3 ⟨a, m, v, rfl, hag, hft, hb3⟩
  have hbs2 := hb2.out.size
  have hb3 := hb2.out.trans (hb3.mono hbs2)
  have hst : Hid (RunAt w w3 p a m nb (parF l).length v kd L l (startF l) F F 0) :=
    ⟨hh.out.kept hb3, hag, fun j hj => by have := hft j hj; omega, fun j hj => .inl hj, fun j hj k => by have := hft j k; have := hFl j hj; omega, Below.turn hb3 _, hpw, hbl, hnF, hnp, hbH.out.kept hb3⟩
  have hres : Hid (runF L most (meas l (startF l)) l (startF l) = RC) := hF.out.symm
  have hN0 : (parF l).length ≤ 1000000 := by have := parF_len l; omega
  generalize hS0 : startF l = S0 at *
  generalize hM0 : meas l S0 = M0 at *
  obtain ⟨N0, hN00⟩ : ∃ N0, (parF l).length = N0 := ⟨_, rfl⟩
  rw [hN00] at hst hN0
  have hm1 : Hid (meas l S0 ≤ M0) := Nat.le_of_eq hM0
  clear hag hft hb3 hA hhP hF hRC hh hb1 hb2 hC hbH hmm hN00 hS0 hM0
  go_wp2_with fail
  go_loopg [17] M0 (fun f _ wr => ∃ (lc : List Nd) (hc : List Int) (F1 : Nat → Prop) (N : Nat) (v : Value) (z : Nat), Hid (RunAt w wr p a m nb N v kd L lc hc F F1 (z : Int)) ∧ Hid ((runF L most f lc hc).1 = RC.1 ∧ z + (runF L most f lc hc).2 = RC.2) ∧ Hid (meas lc hc ≤ f) ∧ N + 3 * f ≤ 100000000 ∧ z + f ≤ 10000000)
  case atStart => exact ⟨l, S0, F, N0, v, 0, hst, by show _ ∧ _; rw [hres.out]; exact ⟨rfl, by omega⟩, hm1, by omega, by omega⟩
  case round =>
    obtain ⟨lc, hc, F1, N, v1, z, hra, hre, hme, hN1, hz⟩ := hrel
    clear hst hres
    have hL := hide (agd_len a m N v1 hc wr hra.out.agd)
    cases hc with
    | nil =>
      have hr2 := hre.out
      rw [runF_nil] at hr2
      have hr2 := hide hr2
      go_wp2_with fail
      refine Calls.mono hL.out ?_
      rintro e w4 ⟨rfl, rfl⟩
      go_wp2_with fail
      go_end0
      have hR := hra.out
      obtain ⟨e1, e2⟩ := hr2.out
      simp only [Nat.add_zero] at e2
      rw [e1] at hR
      subst e2
      exact ⟨⟨_, rfl⟩, F1, hR.pool, hR.box, hR.low, hR.old⟩
    | cons x T =>
      have hP := hide (agd_pop a m N v1 x T wr hra.out.agd)
      have hpos := hra.out.agd.pos x (by simp)
      obtain ⟨f0, hf0⟩ : ∃ f0, gk = f0 + 1 := ⟨gk - 1, by have := hme.out; unfold meas at this; rw [List.length_cons] at this; omega⟩
      subst hf0
      have hcan := hra.out.pool.canon
      have hinu := hra.out.pool.inU
      have hpl1 : (popA (x :: T)).length + 1 = (x :: T).length := by rw [(popA_perm x T).length_eq]; rfl
      have hR := hide (fun W (k : PoolAt W p kd L lc F1) => fold_ready p kd L most x lc F1 W k)
      have hlp : (0 : Int) < (((x :: T).length : Nat) : Int) := by simp only [List.length_cons]; omega
      have hmp := meas_pop (l := lc) (x := x) (T := T)
      have hme1 := hme.out
      have hlm : ∀ (q : List Nd) (g : List Int), g.length ≤ meas q g := fun q g => by unfold meas; omega
      by_cases hrd : readyB L most lc x = true
      · rw [hrd] at hR
        have hx := ready_iff.1 hrd
        have hre1 : Hid ((runF L most f0 (foldAt x lc) (nextA (popA (x :: T)) x)).1 = RC.1 ∧ z + 1 + (runF L most f0 (foldAt x lc) (nextA (popA (x :: T)) x)).2 = RC.2) := by
          have := hre.out
          rw [runF, if_pos hrd] at this
          exact ⟨this.1, by omega⟩
        have hmf := meas_fold hL1 hcan hinu hrd (T := T)
        have hme2 : Hid (meas (foldAt x lc) (nextA (popA (x :: T)) x) ≤ f0) := by show _ ≤ _; omega
        have hD := hide (fun W (k : PoolAt W p kd L lc F1) => fold_do p kd L most x lc F1 W k hrd)
        have hl1 := hlm lc (popA (x :: T))
        have hl2 := putA_len (popA (x :: T)) (2 * x)
        have hl3 := putA_len (putA (popA (x :: T)) (2 * x)) (2 * x + 1)
        have hA1 := hide (fun W v (k : AgdAt W a m v (popA (x :: T)) N) => agd_put a m N v (popA (x :: T)) (2 * x) W k (by omega) (by omega) (by omega))
        have hA2 := hide (fun W v (k : AgdAt W a m v (putA (popA (x :: T)) (2 * x)) (N + 1)) => agd_put a m (N + 1) v (putA (popA (x :: T)) (2 * x)) (2 * x + 1) W k (by omega) (by omega) (by omega))
        have hA3 := hide (fun W v (k : AgdAt W a m v (putA (putA (popA (x :: T)) (2 * x)) (2 * x + 1)) (N + 1 + 1)) => agd_put a m (N + 1 + 1) v (putA (putA (popA (x :: T)) (2 * x)) (2 * x + 1)) (x / 2) W k (by omega) (by omega) (by omega))
        have hnx : nextA (popA (x :: T)) x = putA (putA (putA (popA (x :: T)) (2 * x)) (2 * x + 1)) (x / 2) := rfl
        rw [hnx] at hre1 hme2
        have hTd := hide (fun W (k : Blk W nb 3 #[.int .i64 (z : Int)]) => told_c nb x (z : Int) W k (by omega) (by omega))
        obtain ⟨n2, hn2⟩ : ∃ n2, (x :: T).length = n2 := ⟨_, rfl⟩
        rw [hn2] at hL hlp
        clear hre hrd hcan hinu hme hme1 hmf hmp hl1 hl2 hl3 hlm hnx hn2 hpl1
        generalize putA (putA (putA (popA (x :: T)) (2 * x)) (2 * x + 1)) (x / 2) = G3 at *
        generalize putA (putA (popA (x :: T)) (2 * x)) (2 * x + 1) = G2 at *
        generalize putA (popA (x :: T)) (2 * x) = G1 at *
        generalize popA (x :: T) = G0 at *
        generalize foldAt x lc = lf at *
        go_wp2_with fail
        refine Calls.mono hL.out ?_
        rintro e w4 ⟨rfl, rfl⟩
        go_wp2_with fail
        refine Calls.mono hP.out ?_
        rintro e w4 ⟨rfl, v4, h1, h2, h3⟩
        have hr4 := hide (hra.out.agenda h1 h2 fun j hj => .inl (by unfold foot at hj ⊢; rw [h3] at hj; exact hj))
        clear h1 h2 h3
        go_wp2_with fail
        refine Calls.mono (hR.out _ hr4.out.pool) ?_
        rintro e w5 ⟨rfl, hb5⟩
        have hr5 := hide (hr4.out.same hb5)
        clear hb5
        go_wp2_with fail
        refine Calls.mono (hD.out _ hr5.out.pool) ?_
        rintro e w6 ⟨⟨z6, rfl⟩, F6, h1, h2, h3⟩
        have hr6 := hide (hr5.out.fold h1 h2 h3)
        clear h1 h2 h3
        go_wp2_with (go_at_call 86; refine (hTd.out _ hr6.out.box).mono ?_; rintro e w7 ⟨⟨v7, rfl⟩, rfl⟩)
        have hr7 := hide (hr6.out.tick ((z : Int) + 1))
        refine Calls.mono (hA1.out _ _ hr7.out.agd) ?_
        rintro e w8 ⟨⟨b8, rfl⟩, v8, h1, h2, h3⟩
        have hr8 := hide (hr7.out.agenda h1 h2 h3)
        clear h1 h2 h3
        go_wp2_with fail
        refine Calls.mono (hA2.out _ _ hr8.out.agd) ?_
        rintro e w9 ⟨⟨b9, rfl⟩, v9, h1, h2, h3⟩
        have hr9 := hide (hr8.out.agenda h1 h2 h3)
        clear h1 h2 h3
        go_wp2_with fail
        refine Calls.mono (hA3.out _ _ hr9.out.agd) ?_
        rintro e w10 ⟨⟨b10, rfl⟩, v10, h1, h2, h3⟩
        have hr10 := hide (hr9.out.agenda h1 h2 h3)
        clear h1 h2 h3
        go_wp2_with fail
        go_roundg f0
        case measure => omega
        case rel => exact ⟨lf, G3, F6, N + 1 + 1 + 1, v10, z + 1, hr10, hre1, hme2, by omega, by omega⟩
      · have hrd2 : readyB L most lc x = false := by simpa using hrd
        rw [hrd2] at hR
        have hre1 : Hid ((runF L most f0 lc (popA (x :: T))).1 = RC.1 ∧ z + (runF L most f0 lc (popA (x :: T))).2 = RC.2) := by
          have := hre.out
          rw [runF, if_neg hrd] at this
          exact this
        have hme2 : Hid (meas lc (popA (x :: T)) ≤ f0) := by show _ ≤ _; omega
        obtain ⟨n2, hn2⟩ : ∃ n2, (x :: T).length = n2 := ⟨_, rfl⟩
        rw [hn2] at hL hlp
        clear hre hrd hrd2 hcan hinu hme hme1 hmp hlm hn2 hpl1
        generalize popA (x :: T) = G0 at *
        go_wp2_with fail
        refine Calls.mono hL.out ?_
        rintro e w4 ⟨rfl, rfl⟩
        go_wp2_with fail
        refine Calls.mono hP.out ?_
        rintro e w4 ⟨rfl, v4, h1, h2, h3⟩
        have hr4 := hide (hra.out.agenda h1 h2 fun j hj => .inl (by unfold foot at hj ⊢; rw [h3] at hj; exact hj))
        clear h1 h2 h3
        go_wp2_with fail
        refine Calls.mono (hR.out _ hr4.out.pool) ?_
        rintro e w5 ⟨rfl, hb5⟩
        have hr5 := hide (hr4.out.same hb5)
        clear hb5
        go_wp2_with fail
        go_roundg f0
        case measure => omega
        case rel => exact ⟨lc, G0, F1, N, v4, z, hr5, hre1, hme2, by omega, by omega⟩
end Go.Proofs.YtfjgpjgphdiliaaGreat
/- Run: a store, folded as far as it may be: how often. By the prover of this repo. -/
namespace Go.Proofs.YtfjgpjgphdiliaaGreat
open Go.RowKit
open TwigM RollM StoM

theorem may_c (K : Int) (w : World) : Calls Tryz.prog 110 #[.int .i64 K] w fun e w' => e = .returned (.bool (decide (1 ≤ K ∧ K ≤ 1048576))) ∧ w = w' := by
  by_cases h1 : 1 ≤ K
  · by_cases h2 : K ≤ 1048576
    · rw [decide_eq_true ⟨h1, h2⟩]
      go_enter Tryz.func110, Tryz.ntmps110
      go_wp2_with fail
      go_ret
      exact ⟨rfl, rfl⟩
    · rw [decide_eq_false (fun k => h2 k.2)]
      go_enter Tryz.func110, Tryz.ntmps110
      go_wp2_with fail
      go_ret
      exact ⟨rfl, rfl⟩
  · rw [decide_eq_false (fun k => h1 k.1)]
    go_enter Tryz.func110, Tryz.ntmps110
    go_wp2_with fail
    go_ret
    exact ⟨rfl, rfl⟩
theorem wrong_c (p : Nat) (K : Int) (w : World) (h1 : 1 ≤ K) (h2 : K ≤ 1048576) : Calls Tryz.prog 84 #[.pointer (some ⟨p, 0, none⟩), .int .i64 K] w fun e w' => e = .returned (.int .i64 0) ∧ w = w' := by
  have hM := hide (fun W => may_c K W)
  rw [decide_eq_true ⟨h1, h2⟩] at hM
  go_enter Tryz.func84, Tryz.ntmps84
  go_wp2_with fail
  refine Calls.mono (hM.out _) ?_
  rintro e w1 ⟨rfl, rfl⟩
  go_wp2_with fail
  go_ret
  exact ⟨rfl, rfl⟩
theorem press_Run (p : Nat) (kd L K : Int) (l : List Nd) (F : Nat → Prop) (w : World) (h : PoolAt w p kd L l F) (hK : 1 ≤ K) (hK2 : K ≤ 1048576) (hms : meas l (startF l) ≤ 10000000) :
    Calls Tryz.prog 55 #[.pointer (some ⟨p, 0, none⟩), .int .i64 K] w fun e w' => e = .returned (.tuple #[.int .i64 ((pressF L K l).2 : Int), .int .i64 0]) ∧ ∃ F', PoolAt w' p kd L (pressF L K l).1 F' ∧ Turn F w w' ∧ ∀ j, F' j → F j ∨ w.heap.size ≤ j := by
  have hW := hide (fun W => wrong_c p K W hK hK2)
  have hpl := h.lt
  have hR := hide (press_run p w.heap.size kd L K l F (w.alloc (.cells #[.int .i64 0] 3)) (h.kept (balloc0 w _)) hK hK2 hms (Blk.made w _ _) (fun k => by have := hpl.2 _ k; omega) (by omega))
  clear h hms
  generalize pressF L K l = RC at *
  obtain ⟨l', c⟩ := RC
  simp only at hR ⊢
  go_enter Tryz.func55, Tryz.ntmps55
  go_wp2_with fail
  refine Calls.mono (hW.out _) ?_
  rintro e w1 ⟨rfl, rfl⟩
  go_wp2_with fail
  refine Calls.mono hR.out ?_
  rintro e w1 ⟨⟨v1, rfl⟩, F', h1, h2, h3, h4⟩
  have c0 := h2.cell 0
  have h1 := hide h1
  have h3 := hide h3
  have h4 := hide h4
  clear h2
  go_wp2_with fail
  go_ret2
  refine ⟨rfl, F', h1.out, ?_, fun j hj => ?_⟩
  · refine (Turn.alloc w F _).trans h3.out fun j hj k => ?_
    rcases k with k | k
    · exact k
    · omega
  · rcases h4.out j hj with k | k
    · exact .inl k
    · right
      simp at k
      omega
end Go.Proofs.YtfjgpjgphdiliaaGreat
