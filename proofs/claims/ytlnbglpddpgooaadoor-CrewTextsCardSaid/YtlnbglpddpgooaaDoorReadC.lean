/- The walk of crew.Read. By the prover of this repo. -/
import Derived.Test.YtlnbglpddpgooaaDoorReadM
namespace Go.Proofs.YtlnbglpddpgooaaDoor
open Go.RowKit Go.Shelf

attribute [local go_sem] Oper.semAt_some

/-- The three cells of crew.Read. -/
def Rd3 (h : Nat) (w0 : World) (a : Int) (b : Bool) (s : Int) (W : World) : Prop := Boxed W h 27 (.int .u64 a) ∧ Boxed W (h + 1) 4 (.bool b) ∧ Boxed W (h + 2) 27 (.int .u64 s) ∧ Below h w0 W
theorem Rd3.sum {h : Nat} {w0 W : World} {a s : Int} {b : Bool} (k : Rd3 h w0 a b s W) (hw : w0.heap.size = h) (s' : Int) : Rd3 h w0 a b s' (W.setCell ⟨h + 2, 0, none⟩ (.int .u64 s')) := by
  obtain ⟨k0, k1, k2, k3⟩ := k
  refine ⟨k0.other (by omega) _, k1.other (by omega) _, k2.set _, k3.grown (grownBy_setCell' W (h + 2) _) (by have := k3.size; omega) (fun k e => by cases e; omega)⟩
theorem Rd3.res {h : Nat} {w0 W : World} {a s : Int} {b : Bool} (k : Rd3 h w0 a b s W) (hw : w0.heap.size = h) (a' : Int) (b' : Bool) : Rd3 h w0 a' b' s ((W.setCell ⟨h, 0, none⟩ (.int .u64 a')).setCell ⟨h + 1, 0, none⟩ (.bool b')) := by
  obtain ⟨k0, k1, k2, k3⟩ := k
  refine ⟨(k0.set _).other (by omega) _, (k1.other (by omega) _).set _, (k2.other (by omega) _).other (by omega) _, ?_⟩
  have q := k3.grown (grownBy_setCell' W h (.int .u64 a')) (by have := k3.size; omega) (fun k e => by cases e; omega)
  exact q.grown (grownBy_setCell' _ (h + 1) _) (by have := q.size; omega) (fun k e => by cases e; omega)
theorem Rd3.own {h z B : Nat} {w0 : World} {a s : Int} {b : Bool} {X Y : World} {row : Option Nat} (k : Rd3 h w0 a b s X) (hz : z = h + 3) (hB : h + 6 ≤ B) (hw : w0.heap.size = h) (hg : X.grownBy Y row) (hr : ∀ r, row = some r → r = z ∨ (B ≤ r ∧ ∃ o : Obj, X.heap[r]? = some o ∧ o.isCells = false)) : Rd3 h w0 a b s Y := by
  obtain ⟨k0, k1, k2, k3⟩ := k
  have hn : ∀ r, row = some r → h + 3 ≤ r := fun r e => by rcases hr r e with h | h <;> omega
  exact ⟨k0.kept hg (fun e => by have := hn _ e.symm; omega), k1.kept hg (fun e => by have := hn _ e.symm; omega), k2.kept hg (fun e => by have := hn _ e.symm; omega), k3.grown hg (by have := k3.size; omega) (fun r e => by have := hn r e; omega)⟩
theorem Rd3.drew {h : Nat} {w0 W : World} {a s : Int} {b : Bool} (k : Rd3 h w0 a b s W) (n : Nat) : Rd3 h w0 a b s (W.drewN n) := ⟨k.1, k.2.1, k.2.2.1, below_drewN k.2.2.2 n⟩
theorem set_other (C : World) (j i : Nat) (v : Value) (h : j ≠ i) : (C.setCell ⟨j, 0, none⟩ v).heap[i]? = C.heap[i]? := by
  show (C.heap.modify j _)[i]? = _
  rw [Array.getElem?_modify, if_neg h]
theorem Rd3.below {h : Nat} {w0 W W' : World} {a s : Int} {b : Bool} (k : Rd3 h w0 a b s W) (hw : w0.heap.size = h) (hb : Below W.heap.size W W') : Rd3 h w0 a b s W' :=
  ⟨(hb.block _ k.1.lt).trans k.1, (hb.block _ k.2.1.lt).trans k.2.1, (hb.block _ k.2.2.1.lt).trans k.2.2.1, k.2.2.2.trans (hb.mono (by have := k.2.2.2.size; omega))⟩
theorem Rd3.put {h D : Nat} {w0 W : World} {a s : Int} {b : Bool} (k : Rd3 h w0 a b s W) (hw : w0.heap.size = h) (hD : h + 3 ≤ D) (o : Obj) : Rd3 h w0 a b s (W.putObj D o) := by
  obtain ⟨k0, k1, k2, k3⟩ := k
  have hg := grownBy_putObj' W D o
  exact ⟨k0.kept hg (fun e => by cases e; omega), k1.kept hg (fun e => by cases e; omega), k2.kept hg (fun e => by cases e; omega), k3.grown hg (by have := k3.size; omega) (fun r e => by cases e; omega)⟩
/-- What a round of crew.Read's loop keeps. -/
def Stp (B z : Nat) (A C : World) : Prop := KeepsFrom B A C ∧ KeepB z A C
theorem Stp.refl (B z : Nat) (A : World) : Stp B z A A := ⟨KeepsFrom.refl _ _, fun _ _ _ => rfl⟩
theorem Stp.drew {B z : Nat} {A C : World} (k : Stp B z A C) (n : Nat) : Stp B z A (C.drewN n) := ⟨k.1.trans ⟨Nat.le_refl _, fun _ _ _ h _ => h⟩, fun i h1 h2 => k.2 i h1 h2⟩
theorem Stp.set {B z : Nat} {A C : World} (k : Stp B z A C) (j : Nat) (v : Value) (hj : j < z) : Stp B z A (C.setCell ⟨j, 0, none⟩ v) :=
  ⟨k.1.trans ((KeepsOthers.setCell _ _ _).from _), fun i h1 h2 => ((set_other C j i v (by omega)).trans (k.2 i h1 h2))⟩
theorem keepB_t {z : Nat} {A B C : World} (h : KeepB z A B) (k : KeepB z B C) : KeepB z A C := fun i h1 h2 => (k i h1 h2).trans (h i h1 h2)
theorem keepB_b {z n : Nat} (hn : z + 3 ≤ n) (W : World) (l : Nat) (_o o' : Obj) (hl : n ≤ l) : KeepB z W (W.putObj l o') := fun i _ h2 => World.putObj_heap_other (by omega)
theorem senF_lt {t : ByteArray} {n : Nat} (h : senF t = (n, true)) : n < 48 := by
  unfold senF at h
  obtain ⟨h1, h2⟩ := Prod.mk.inj h
  rw [Bool.and_eq_true] at h2
  rw [← h1]
  exact of_decide_eq_true h2.2
theorem results_cells2 {P : Program} {fn : Func} {p q : Tmp} {ty uy : TypeId} (h : fn.results = #[.cell p ty, .cell q uy]) (tmps : Array Value) (w : World) {a b : Addr} {v u : Value} (hp : tmps[p]?.getD undef = .pointer (some a)) (hq : tmps[q]?.getD undef = .pointer (some b)) (i1 : (isAgg ty).run P w = .ok false w) (i2 : (isAgg uy).run P w = .ok false w) (ha : w.cell? a = some v) (hb : w.cell? b = some u) :
    (results fn tmps).run P w = .ok (.tuple #[v, u]) w := by
  simp [results, h, hp, hq, go_sem, i1, i2, ha, hb]
theorem rowP_eq (r : ByteArray) : rowP r = (fun C : ByteArray × ByteArray × Bool => if (senF C.1).2 = true ∧ (senF (if C.2.2 = true then C.2.1 else C.1)).2 = true then some ((senF C.1).1, (senF (if C.2.2 = true then C.2.1 else C.1)).1) else none) (cutF r) := rfl
set_option maxRecDepth 100000 in
set_option maxHeartbeats 4000000 in
theorem crew_read (t : ByteArray) (ht : t.size ≤ 1000) (w : World) (hT : Tz w) :
    Calls Tryd.prog 27 #[.string t] w fun e w' => e = .returned (.tuple #[.int .u64 (readF t).1, .bool (readF t).2]) ∧ Below w.heap.size w w' := by
  unfold readF
  by_cases hd : t = ⟨#[45]⟩
  · subst hd
    rw [if_pos rfl]
    go_enter Tryd.func27, Tryd.ntmps27
    go_wp2_with fail
    have c0 := ((Boxed.new w 27 (.int .u64 0)).alloc (.cells #[.bool true] 4)).cell
    have c1 := (Boxed.new (w.alloc (.cells #[.int .u64 0] 27)) 4 (.bool true)).cell
    rw [World.size_alloc] at c1
    refine bodyPost_ret (results_cells2 Tryd.results27 _ _ rfl rfl (by kernel_rfl) (by kernel_rfl) c0 c1) rfl ⟨rfl, ?_⟩
    exact ((Below.refl _ _).alloc (Nat.le_refl _) _).alloc (by simp) _
  · rw [if_neg hd]
    obtain ⟨G, hG⟩ : ∃ G, readG t (parseG 0 (rowsC t)) = G := ⟨_, rfl⟩
    rw [hG]
    replace hG := hide hG
    obtain ⟨ga, gb⟩ := G
    simp only []
    have hd1 : (t.toList == [45]) = false := by
      have := str_ne hd
      rwa [ByteArray.toList_eq ⟨#[45]⟩] at this
    refine (callsIn_wide (n := 9)).1 ?_
    refine callsIn_of_wp_marks Tryd.func27 rfl trivial ?_ rfl
    simp only [Tryd.ntmps27, List.size_toArray, List.length_cons, List.length_nil, Nat.reduceAdd, Nat.reduceSub, Array.replicate_succ, Array.replicate_zero, List.push_toArray, List.append_toArray, List.nil_append, List.cons_append]
    gi_wp2_with (refine ⟨trivial, ?_⟩; (gi_at_call 39; refine (callsIn_wide.2 (str_splitSeq _ _)).mono ?_; rintro e w1 ⟨rfl, rfl⟩))
    obtain ⟨V, hV⟩ : ∃ V, V = ((w.alloc (.cells #[.int .u64 0] 27)).alloc (.cells #[.bool false] 4)).alloc (.cells #[.int .u64 0] 27) := ⟨_, rfl⟩
    obtain ⟨h, hh⟩ : ∃ h, w.heap.size = h := ⟨_, rfl⟩
    have hVz : V.heap.size = h + 3 := by rw [hV]; simp [hh]
    have hV3 : Rd3 h w 0 false 0 V := by
      rw [hV]
      refine ⟨?_, ?_, ?_, ?_⟩
      · rw [← hh]; exact ((Boxed.new w _ _).alloc _).alloc _
      · have := Boxed.new (w.alloc (.cells #[.int .u64 0] 27)) 4 (.bool false)
        rw [World.size_alloc, hh] at this
        exact this.alloc _
      · have := Boxed.new ((w.alloc (.cells #[.int .u64 0] 27)).alloc (.cells #[.bool false] 4)) 27 (.int .u64 0)
        rw [World.size_alloc, World.size_alloc, hh] at this
        exact this
      · rw [← hh]; exact (((Below.refl _ _).alloc (Nat.le_refl _) _).alloc (by simp) _).alloc (by simp; omega) _
    rw [← hV, hh]
    simp only [Nat.add_assoc, Nat.reduceAdd]
    obtain ⟨b0, b1, b2⟩ := seqW_box t V
    rw [hVz] at b0 b1 b2
    have hVb := seqW_below t V
    have hW0z := seqW_size t V
    rw [hVz] at hVb hW0z
    have hW0 : Rd3 h w 0 false 0 (seqW t V) := ⟨(hVb.block h (by omega)).trans hV3.1, (hVb.block (h + 1) (by omega)).trans hV3.2.1, (hVb.block (h + 2) (by omega)).trans hV3.2.2.1, hV3.2.2.2.trans (hVb.mono (by omega))⟩
    generalize seqW t V = W0 at *
    clear hV hV3 hVb hVz
    refine range_cell rfl (by omega) (gf := 51) (lb := #[.pointer (some ⟨h + 3 + 1, 0, none⟩), .pointer (some ⟨h + 3, 0, none⟩), .pointer (some ⟨h + 3 + 2, 0, none⟩)]) rfl trivial (enters_of Tryd.func51 (by kernel_rfl) rfl)
      (Bs := h + 3) (by omega) (seq_cell (9 - 1) (by omega) (h + 3) t ht W0 b0 b1 b2) keepB_t (fun W l o o' hl _ _ _ => keepB_b (by omega) W l o o' hl) (fun _ => rfl)
      (fun pre W => ∃ s : Int, parseG 0 (pre.map (·.1)) = some s ∧ Rd3 h w 0 false s W)
      (fun c pre W => c = .ret ∧ parseG 0 (pre.map (·.1)) = none ∧ ∃ s : Int, Rd3 h w 0 false s W)
      (fun pre A C row hs hg hr => hs.imp fun s h1 => ⟨h1.1, h1.2.own rfl (by omega) hh hg hr⟩)
      (fun c pre A C row hs hg hr => ⟨hs.1, hs.2.1, hs.2.2.imp fun s h1 => h1.own rfl (by omega) hh hg hr⟩)
      ⟨0, rfl, hW0⟩
      (fun x => { tmps := ((.string t : Value) :: undef :: (.pointer (some ⟨h, 0, none⟩) : Value) :: (.pointer (some ⟨h + 1, 0, none⟩) : Value) :: (.pointer (some ⟨h + 2, 0, none⟩) : Value) :: (.string x.1 : Value) :: undef :: undef :: undef :: undef :: undef :: undef :: undef :: undef :: undef :: undef :: (.string t : Value) :: (.bool false : Value) :: (.string t : Value) :: seqV (h + 3) :: (.string x.1 : Value) :: undef :: undef :: undef :: undef :: undef :: undef :: undef :: undef :: undef :: undef :: undef :: undef :: undef :: undef :: undef :: undef :: undef :: undef :: undef :: undef :: undef :: undef :: undef :: undef :: undef :: undef :: undef :: undef :: undef :: undef :: undef :: undef :: undef :: undef :: undef :: undef :: undef :: undef :: undef :: undef :: undef :: undef :: undef :: []).toArray, defers := [] }) ?assign ?body ?done ?stop
    case assign =>
      intro l x W K hK
      dsimp only [encR]
      gi_wp2
      exact hK
    case body =>
      rintro l pre x W ⟨S, hp, hR⟩ hlt
      have hps := parseG_bd _ _ _ (by omega) (by omega) hp
      have hrp := rowP_eq x.1
      have hcz := cutF_size x.1
      have hC := hide (fun V => str_cut x.1 V x.2)
      obtain ⟨x, hx⟩ := x
      simp only [] at hrp hcz hC ⊢
      have happ : Hid (parseG 0 ((pre ++ [(⟨x, hx⟩ : Row)]).map (·.1)) = parseG S [x]) := by show _ = _; rw [List.map_append, parseG_app, hp]; rfl
      generalize cutF x = C at *
      obtain ⟨ca, cb, cm⟩ := C
      simp only [] at hrp hcz hC
      clear hp hW0 b0 b1 b2
      obtain ⟨bb, hbb⟩ : ∃ bb, (if cm = true then cb else ca) = bb := ⟨_, rfl⟩
      rw [hbb] at hrp
      have hbz : bb.size ≤ 1000 := by rw [← hbb]; split <;> omega
      have hNa := hide (fun V => crew_number ca V (by omega))
      have hNb := hide (fun V => crew_number bb V hbz)
      generalize hSa : senF ca = Sa at *
      generalize hSb : senF bb = Sb at *
      obtain ⟨na, oa⟩ := Sa
      obtain ⟨nb, ob⟩ := Sb
      simp only [] at hrp hNa hNb
      have hSa := hide hSa
      have hSb := hide hSb
      clear hcz
      have k0 := hR.1.cell
      have k1 := hR.2.1.cell
      have k2 := hR.2.2.1.cell
      have f0 := hR.1.frozen
      have f1 := hR.2.1.frozen
      have f2 := hR.2.2.1.frozen
      rcases cm with _ | _
      · simp only [Bool.false_eq_true, if_false] at hbb
        subst hbb
        obtain ⟨rfl, rfl⟩ : na = nb ∧ oa = ob := Prod.mk.inj (hSa.out.symm.trans hSb.out)
        rcases oa with _ | _
        · have hno : Hid (parseG 0 ((pre ++ [(⟨x, hx⟩ : Row)]).map (·.1)) = none) := by show _ = _; rw [happ.out]; exact parseG_no (by rw [hrp, if_neg (fun h => by cases h.1)])
          have hrp := hide hrp
          gi_wp2_with (refine ⟨trivial, ?_⟩; first
            | (gi_at_call 40; refine (CallsIn.inRound l (callsIn_wide.2 (hC.out _))).mono ?_; rintro e w1 ⟨rfl, nq, rfl⟩)
            | (gi_at_call 41; (with_reducible refine (CallsIn.inRound l (callsIn_wide.2 (hNa.out _))).mono ?_); rintro e w1 ⟨rfl, rfl⟩)
            | (gi_at_call 41; (with_reducible refine (CallsIn.inRound l (callsIn_wide.2 (hNb.out _))).mono ?_); rintro e w1 ⟨rfl, rfl⟩))
          exact ⟨(((((Stp.refl _ (h + 3) W).drew nq).set h _ (by omega)).set (h + 1) _ (by omega))).1, rfl, hno.out, S, (hR.drew nq).res hh 0 false⟩
        · have hyes : Hid (parseG 0 ((pre ++ [(⟨x, hx⟩ : Row)]).map (·.1)) = some (spanF S (na, na))) := by show _ = _; rw [happ.out, parseG_on (by rw [hrp, if_pos ⟨rfl, rfl⟩]), parseG_nil]
          clear hrp happ
          gi_wp2_with (refine ⟨trivial, ?_⟩; first
            | (gi_at_call 40; refine (CallsIn.inRound l (callsIn_wide.2 (hC.out _))).mono ?_; rintro e w1 ⟨rfl, nq, rfl⟩)
            | (gi_at_call 41; (with_reducible refine (CallsIn.inRound l (callsIn_wide.2 (hNa.out _))).mono ?_); rintro e w1 ⟨rfl, rfl⟩)
            | (gi_at_call 41; (with_reducible refine (CallsIn.inRound l (callsIn_wide.2 (hNb.out _))).mono ?_); rintro e w1 ⟨rfl, rfl⟩))
          have hna : na < 48 := senF_lt hSa.out
          have hnb : na < 48 := senF_lt hSa.out
          have hst := hide ((Stp.refl W0.heap.size (h + 3) W).drew nq)
          have hRd := hide (hR.drew nq)
          have hspan : Hid (addF (na + 1 - na) S (na : Int) = spanF S (na, na)) := rfl
          clear hR k0 k1 k2 f0 f1 f2
          gi_loopw [13] (fun i wr => ∃ (m : Nat) (S' : Int), i = .int .i64 (m : Int) ∧ m ≤ 48 ∧ (0 ≤ S' ∧ S' < 18446744073709551616) ∧ Hid (addF (na + 1 - m) S' (m : Int) = spanF S (na, na)) ∧ Hid (Stp W0.heap.size (h + 3) W wr) ∧ Hid (Rd3 h w 0 false S' wr)) (fun i _ => 48 - (intOf i).toNat)
          case atStart => exact ⟨na, S, rfl, by omega, hps, hspan, hst, hRd⟩
          case round =>
            clear hspan hst hRd
            obtain ⟨m, S', rfl, hm, hS', hsp, hst, hRd⟩ := hrel
            have j2 := hRd.out.2.2.1.cell
            have g2 := hRd.out.2.2.1.frozen
            have hW1 := hide (fun V => crew_with S' (m : Int) V hS'.1 hS'.2)
            have hS2 := with_bd S' (m : Int) hS'.1 hS'.2
            by_cases hle : m ≤ na
            · have hsp2 : Hid (addF (na + 1 - (m + 1)) (withF S' (m : Int)) ((m + 1 : Nat) : Int) = spanF S (na, na)) := by
                show _ = _
                rw [← hsp.out, show na + 1 - m = (na + 1 - (m + 1)) + 1 by omega, addF_succ]
                rfl
              have hst2 := hide (hst.out.set (h + 2) (.int .u64 (withF S' (m : Int))) (by omega))
              have hR2 := hide (hRd.out.sum hh (withF S' (m : Int)))
              generalize withF S' (m : Int) = S2 at *
              clear hsp
              gi_wp2_with (refine ⟨trivial, ?_⟩; (gi_at_call 12; refine (CallsIn.inRound l (callsIn_wide.2 (hW1.out _))).mono ?_; rintro e w5 ⟨rfl, rfl⟩))
              go_roundw
              case rel => exact ⟨m + 1, S2, by go_num, by omega, hS2, hsp2, hst2, hR2⟩
              case measure => simp [intOf]; omega
            · have hsp2 : Hid (S' = spanF S (na, na)) := by
                show _ = _
                rw [← hsp.out, show na + 1 - m = 0 by omega, addF_zero]
              clear hsp
              gi_wp2
              exact ⟨hst.out.1, hst.out.2, S', by rw [hsp2.out]; exact hyes.out, hRd.out⟩
      · simp only [if_true] at hbb
        subst hbb
        rcases oa with _ | _
        · have hno : Hid (parseG 0 ((pre ++ [(⟨x, hx⟩ : Row)]).map (·.1)) = none) := by show _ = _; rw [happ.out]; exact parseG_no (by rw [hrp, if_neg (fun h => by cases h.1)])
          have hrp := hide hrp
          gi_wp2_with (refine ⟨trivial, ?_⟩; first
            | (gi_at_call 40; refine (CallsIn.inRound l (callsIn_wide.2 (hC.out _))).mono ?_; rintro e w1 ⟨rfl, nq, rfl⟩)
            | (gi_at_call 41; (with_reducible refine (CallsIn.inRound l (callsIn_wide.2 (hNa.out _))).mono ?_); rintro e w1 ⟨rfl, rfl⟩)
            | (gi_at_call 41; (with_reducible refine (CallsIn.inRound l (callsIn_wide.2 (hNb.out _))).mono ?_); rintro e w1 ⟨rfl, rfl⟩))
          exact ⟨(((((Stp.refl _ (h + 3) W).drew nq).set h _ (by omega)).set (h + 1) _ (by omega))).1, rfl, hno.out, S, (hR.drew nq).res hh 0 false⟩
        · rcases ob with _ | _
          · have hno : Hid (parseG 0 ((pre ++ [(⟨x, hx⟩ : Row)]).map (·.1)) = none) := by show _ = _; rw [happ.out]; exact parseG_no (by rw [hrp, if_neg (fun h => by cases h.2)])
            have hrp := hide hrp
            gi_wp2_with (refine ⟨trivial, ?_⟩; first
              | (gi_at_call 40; refine (CallsIn.inRound l (callsIn_wide.2 (hC.out _))).mono ?_; rintro e w1 ⟨rfl, nq, rfl⟩)
              | (gi_at_call 41; (with_reducible refine (CallsIn.inRound l (callsIn_wide.2 (hNa.out _))).mono ?_); rintro e w1 ⟨rfl, rfl⟩)
              | (gi_at_call 41; (with_reducible refine (CallsIn.inRound l (callsIn_wide.2 (hNb.out _))).mono ?_); rintro e w1 ⟨rfl, rfl⟩))
            exact ⟨(((((Stp.refl _ (h + 3) W).drew nq).set h _ (by omega)).set (h + 1) _ (by omega))).1, rfl, hno.out, S, (hR.drew nq).res hh 0 false⟩
          · have hyes : Hid (parseG 0 ((pre ++ [(⟨x, hx⟩ : Row)]).map (·.1)) = some (spanF S (na, nb))) := by show _ = _; rw [happ.out, parseG_on (by rw [hrp, if_pos ⟨rfl, rfl⟩]), parseG_nil]
            clear hrp happ
            gi_wp2_with (refine ⟨trivial, ?_⟩; first
              | (gi_at_call 40; refine (CallsIn.inRound l (callsIn_wide.2 (hC.out _))).mono ?_; rintro e w1 ⟨rfl, nq, rfl⟩)
              | (gi_at_call 41; (with_reducible refine (CallsIn.inRound l (callsIn_wide.2 (hNa.out _))).mono ?_); rintro e w1 ⟨rfl, rfl⟩)
              | (gi_at_call 41; (with_reducible refine (CallsIn.inRound l (callsIn_wide.2 (hNb.out _))).mono ?_); rintro e w1 ⟨rfl, rfl⟩))
            have hna : na < 48 := senF_lt hSa.out
            have hnb : nb < 48 := senF_lt hSb.out
            have hst := hide ((Stp.refl W0.heap.size (h + 3) W).drew nq)
            have hRd := hide (hR.drew nq)
            have hspan : Hid (addF (nb + 1 - na) S (na : Int) = spanF S (na, nb)) := rfl
            clear hR k0 k1 k2 f0 f1 f2
            gi_loopw [13] (fun i wr => ∃ (m : Nat) (S' : Int), i = .int .i64 (m : Int) ∧ m ≤ 48 ∧ (0 ≤ S' ∧ S' < 18446744073709551616) ∧ Hid (addF (nb + 1 - m) S' (m : Int) = spanF S (na, nb)) ∧ Hid (Stp W0.heap.size (h + 3) W wr) ∧ Hid (Rd3 h w 0 false S' wr)) (fun i _ => 48 - (intOf i).toNat)
            case atStart => exact ⟨na, S, rfl, by omega, hps, hspan, hst, hRd⟩
            case round =>
              clear hspan hst hRd
              obtain ⟨m, S', rfl, hm, hS', hsp, hst, hRd⟩ := hrel
              have j2 := hRd.out.2.2.1.cell
              have g2 := hRd.out.2.2.1.frozen
              have hW1 := hide (fun V => crew_with S' (m : Int) V hS'.1 hS'.2)
              have hS2 := with_bd S' (m : Int) hS'.1 hS'.2
              by_cases hle : m ≤ nb
              · have hsp2 : Hid (addF (nb + 1 - (m + 1)) (withF S' (m : Int)) ((m + 1 : Nat) : Int) = spanF S (na, nb)) := by
                  show _ = _
                  rw [← hsp.out, show nb + 1 - m = (nb + 1 - (m + 1)) + 1 by omega, addF_succ]
                  rfl
                have hst2 := hide (hst.out.set (h + 2) (.int .u64 (withF S' (m : Int))) (by omega))
                have hR2 := hide (hRd.out.sum hh (withF S' (m : Int)))
                generalize withF S' (m : Int) = S2 at *
                clear hsp
                gi_wp2_with (refine ⟨trivial, ?_⟩; (gi_at_call 12; refine (CallsIn.inRound l (callsIn_wide.2 (hW1.out _))).mono ?_; rintro e w5 ⟨rfl, rfl⟩))
                go_roundw
                case rel => exact ⟨m + 1, S2, by go_num, by omega, hS2, hsp2, hst2, hR2⟩
                case measure => simp [intOf]; omega
              · have hsp2 : Hid (S' = spanF S (na, nb)) := by
                  show _ = _
                  rw [← hsp.out, show nb + 1 - m = 0 by omega, addF_zero]
                clear hsp
                gi_wp2
                exact ⟨hst.out.1, hst.out.2, S', by rw [hsp2.out]; exact hyes.out, hRd.out⟩
    case done =>
      rintro D ys W hD hys ⟨S, hp, hR⟩ hK
      have hps := parseG_bd _ _ _ (by omega) (by omega) hp
      rw [hys] at hp
      obtain ⟨sn, rfl⟩ := Int.eq_ofNat_of_zero_le hps.1
      have hX := hide (crew_text sn (by omega) W (hT.of_below (Nat.le_refl _) (by rw [hh]; exact hR.2.2.2)))
      have hG2 := hG.out
      rw [hp] at hG2
      simp only [readG, Int.toNat_natCast] at hG2
      have k2 := hR.2.2.1.cell
      clear hys hp hW0 b0 b1 b2 hG
      by_cases hx : (textF sn).1 = t
      · rw [if_pos hx] at hG2
        rw [hx] at hX
        generalize (textF sn).2 = tb at hX
        clear hx
        obtain ⟨rfl, rfl⟩ := Prod.mk.inj hG2
        clear hG2
        gi_wp2_with (refine ⟨trivial, ?_⟩; gi_at_call 25; refine (callsIn_wide.2 hX.out).mono ?_; rintro e w5 ⟨rfl, hb5⟩; have R5 := hR.below hh hb5; have j0 := R5.1.cell; have g0 := R5.1.frozen; have j1 := R5.2.1.cell; have g1 := R5.2.1.frozen; have j2 := R5.2.2.1.cell; have R6 := hide (R5.res hh (sn : Int) true); have hb5 := hide hb5; clear hX)
        have hK' := ((set_other _ (h + 1) D (.bool true) (by omega)).trans (set_other w5 h D (.int .u64 (sn : Int)) (by omega))).trans ((hb5.out.block D (Array.getElem?_eq_some_iff.1 hK).1).trans hK)
        refine ⟨by simp, .inl ⟨_, _, rfl, run_takeDeferred hK', ?_⟩⟩
        have R7 := R6.out.put (D := D) hh (by omega) (.deferred none)
        have q0 := R7.1.cell
        have q1 := R7.2.1.cell
        exact ⟨_, results_cells2 Tryd.results27 _ _ rfl rfl (by kernel_rfl) (by kernel_rfl) q0 q1, rfl, by rw [hh]; exact R7.2.2.2⟩
      · rw [if_neg hx] at hG2
        obtain ⟨rfl, rfl⟩ := Prod.mk.inj hG2
        generalize (textF sn).2 = tb at hX
        generalize (textF sn).1 = tx at hX hx
        have hx2 := str_ne hx
        clear hx
        clear hG2
        gi_wp2_with (refine ⟨trivial, ?_⟩; gi_at_call 25; refine (callsIn_wide.2 hX.out).mono ?_; rintro e w5 ⟨rfl, hb5⟩; have R5 := hR.below hh hb5; have j0 := R5.1.cell; have g0 := R5.1.frozen; have j1 := R5.2.1.cell; have g1 := R5.2.1.frozen; have j2 := R5.2.2.1.cell; have R6 := hide (R5.res hh 0 false); have hb5 := hide hb5; clear hX)
        have hK' := ((set_other _ (h + 1) D (.bool false) (by omega)).trans (set_other w5 h D (.int .u64 0) (by omega))).trans ((hb5.out.block D (Array.getElem?_eq_some_iff.1 hK).1).trans hK)
        refine ⟨by simp, .inl ⟨_, _, rfl, run_takeDeferred hK', ?_⟩⟩
        have R7 := R6.out.put (D := D) hh (by omega) (.deferred none)
        have q0 := R7.1.cell
        have q1 := R7.2.1.cell
        exact ⟨_, results_cells2 Tryd.results27 _ _ rfl rfl (by kernel_rfl) (by kernel_rfl) q0 q1, rfl, by rw [hh]; exact R7.2.2.2⟩
    case stop =>
      rintro D c pre W hD hSp ⟨rfl, hno, S, hR⟩ hK
      have hp := parseG_pre hSp hno
      have hG2 := hG.out
      rw [hp] at hG2
      obtain ⟨rfl, rfl⟩ := Prod.mk.inj hG2
      clear hG2 hp hno hSp hW0 b0 b1 b2 hG
      gi_wp2
      refine ⟨by simp, .inl ⟨_, _, rfl, run_takeDeferred hK, ?_⟩⟩
      have R7 := hR.put (D := D) hh (by omega) (.deferred none)
      have q0 := R7.1.cell
      have q1 := R7.2.1.cell
      exact ⟨_, results_cells2 Tryd.results27 _ _ rfl rfl (by kernel_rfl) (by kernel_rfl) q0 q1, rfl, by rw [hh]; exact R7.2.2.2⟩
end Go.Proofs.YtlnbglpddpgooaaDoor
