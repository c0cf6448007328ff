/- Part 13 of the proof: texts joined by this repo's tools/merge2.py (AgdB AgdC AgdD Fold EachP Par Press PressR PressL DigA). By the prover of this repo. -/
import Derived.Test.YteebghoijaaakaaGreatM12
import Derived.RangeFuncNested
import Derived.RangeFuncBound
import Derived.RangeFuncCalls
import Derived.RangeFuncLeaves
import Derived.Shelf.Abstract
import Derived.Shelf.RegionOpen
import Derived.OwnWalkIn
import Derived.TacticsInMore
import Derived.LoopNIn
import Derived.LoopIn
import Derived.Deep.LoopGhost
set_option linter.unusedVariables false
set_option linter.unusedSimpArgs false
/- The walks of layer 10, on: the agenda's set, and what is put there. By the prover of this repo. -/
namespace Go.Proofs.YteebghoijaaakaaGreat
open Go.RowKit
open TwigM RollM StoM

theorem elIntA : Elem Tryz.prog 22 3 (.int .i64 0) 1 8 := ⟨Tryz.underlying22, by kernel_rfl, rfl, by omega⟩
theorem keyInt : Maps.Keyed Tryz.prog 3 := Maps.int_keyed Tryz.underlying3
theorem unit_zero (w : World) : (zeroValue 227).run Tryz.prog w = .ok (.agg #[]) w := by kernel_rfl
theorem key_int {x : Int} (h1 : -9223372036854775808 ≤ x) (h2 : x ≤ 9223372036854775807) : keyOf Tryz.prog 3 (.int .i64 x) = some (.int .i64 x) := by
  refine Maps.keyOf_int_mk Tryz.underlying3 ?_
  have e1 : IntKind.i64.min = -9223372036854775808 := rfl
  have e2 : IntKind.i64.max = 9223372036854775807 := rfl
  simp only [Lit.wf, e1, e2, Bool.and_eq_true, decide_eq_true_eq]
  omega
/-- A set of numbers. -/
def SetIs (w : World) (m n : Nat) (h : List Int) : Prop := ∃ D : DataW Unit, w.ownsMap Tryz.prog 3 unitElem m n D ∧ ∀ x : Int, -9223372036854775808 ≤ x → x ≤ 9223372036854775807 → Maps.has D (.int .i64 x) = decide (x ∈ h)
theorem SetIs.turned {w w' : World} {m n : Nat} {h : List Int} {S : Nat → Prop} (s : SetIs w m n h) (t : Turn S w w') (hm : ¬ S m) : SetIs w' m n h := by
  obtain ⟨D, ho, hD⟩ := s
  have hlt := ho.lt
  obtain ⟨es, clock, hb, F, hs, e⟩ := ho
  exact ⟨D, ⟨es, clock, (t.block m hlt hm).trans hb, F, hs, e⟩, hD⟩
theorem SetIs.made (w : World) : SetIs (w.alloc (.map #[] 0)) w.heap.size 0 [] := ⟨.map [], World.ownsMap_made _ _ _ _, fun x _ _ => by simp [Maps.has]⟩
theorem SetIs.congr {w : World} {m n : Nat} {h h' : List Int} (s : SetIs w m n h) (e : ∀ x, x ∈ h ↔ x ∈ h') : SetIs w m n h' := by
  obtain ⟨D, ho, hD⟩ := s
  exact ⟨D, ho, fun x h1 h2 => by rw [hD x h1 h2]; simp only [e]⟩
theorem SetIs.lt {w : World} {m n : Nat} {h : List Int} (s : SetIs w m n h) : m < w.heap.size := by
  obtain ⟨D, ho, hD⟩ := s
  exact ho.lt
theorem grown_turn {w w' : World} {g : Nat} (h : w.grownBy w' (some g)) : Turn (fun x => x = g) w w' := ⟨h.os, h.tape, h.output, h.size, fun k hk hn => h.block k hk (fun e => hn (Option.some.inj e))⟩
theorem own_turned {w w' : World} {S : Nat → Prop} {e : TypeId} {size n : Nat} {v : Value} {xs : List Value} (h : w.ownsRow 0 e size v n xs) (t : Turn S w w') (hn : ∀ k, v.ownBlock = some k → ¬ S k) : w'.ownsRow 0 e size v n xs := by
  have hlt := h.lt
  obtain ⟨h1, h2⟩ := h
  refine ⟨h1, ?_⟩
  rcases h2 with h2 | ⟨g, cap, cur, rfl, hb, hg, hr⟩
  · exact .inl h2
  · exact .inr ⟨g, cap, cur, rfl, hb, (t.block g (hlt g rfl).2 (hn g rfl)).trans hg, hr⟩
/-- An agenda: its own numbers, and the set of just these. -/
structure AgdAt (w : World) (a m : Nat) (v : Value) (h : List Int) (n : Nat) : Prop where
  blk : Blk w a 225 #[v, .map (some m)]
  row : w.ownsRow 0 3 1 v h.length (hv h)
  set : SetIs w m n h
  ne1 : a ≠ m
  ne2 : v.ownBlock ≠ some a
  ne3 : v.ownBlock ≠ some m
  pos : ∀ x ∈ h, 1 ≤ x ∧ x ≤ 1152921504606846976
  nodup : h.Nodup
  len : h.length ≤ 100000000
def foot (a m : Nat) (v : Value) (j : Nat) : Prop := j = a ∨ j = m ∨ v.ownBlock = some j
theorem AgdAt.turned {w w' : World} {a m n : Nat} {v : Value} {h : List Int} {S : Nat → Prop} (s : AgdAt w a m v h n) (t : Turn S w w') (hn : ∀ j, foot a m v j → ¬ S j) : AgdAt w' a m v h n :=
  ⟨s.blk.turned t (hn a (.inl rfl)), own_turned s.row t (fun k hk => hn k (.inr (.inr hk))), s.set.turned t (hn m (.inr (.inl rfl))), s.ne1, s.ne2, s.ne3, s.pos, s.nodup, s.len⟩
theorem AgdAt.lt {w : World} {a m n : Nat} {v : Value} {h : List Int} (s : AgdAt w a m v h n) : ∀ j, foot a m v j → j < w.heap.size := by
  rintro j (rfl | rfl | e)
  · exact s.blk.lt
  · exact s.set.lt
  · exact (s.row.lt j e).2
theorem agd_len (a m n : Nat) (v : Value) (h : List Int) (w : World) (s : AgdAt w a m v h n) : Calls Tryz.prog 140 #[.pointer (some ⟨a, 0, none⟩)] w fun e w' => e = .returned (.int .i64 (h.length : Int)) ∧ w = w' := by
  have c0 := s.blk.cell 0
  obtain ⟨A, c, rfl, -, -, -⟩ := own_form s.row
  clear s
  go_enter Tryz.func140, Tryz.ntmps140
  go_wp2_with fail
  go_ret
  exact ⟨rfl, rfl⟩
theorem agd_put_no (a : Nat) (id : Int) (w : World) (hid : id < 1) : Calls Tryz.prog 144 #[.pointer (some ⟨a, 0, none⟩), .int .i64 id] w fun e w' => e = .returned (.bool false) ∧ w = w' := by
  go_enter Tryz.func144, Tryz.ntmps144
  go_wp2_with fail
  go_ret
  exact ⟨rfl, rfl⟩
set_option maxRecDepth 100000 in
theorem agd_put_in (a m n : Nat) (v : Value) (h : List Int) (id : Int) (w : World) (s : AgdAt w a m v h n) (hid : 1 ≤ id) (hid2 : id ≤ 1152921504606846976) (hin : id ∈ h) : Calls Tryz.prog 144 #[.pointer (some ⟨a, 0, none⟩), .int .i64 id] w fun e w' => e = .returned (.bool false) ∧ Below w.heap.size w w' := by
  have c1 := s.blk.cell 1
  obtain ⟨D, ho, hD⟩ := s.set
  have hkey := key_int (x := id) (by omega) (by omega)
  have hhas := hD id (by omega) (by omega)
  rw [decide_eq_true hin] at hhas
  have ho := hide ho
  clear s hD
  go_enter Tryz.func144, Tryz.ntmps144
  go_wp2_with (at_lookup; refine wpList_lookup_own_unit _ rfl _ _ 223 rfl 3 227 keyInt Tryz.underlying223 (unit_zero _) m n D rfl ho.out _ _ rfl hkey ?_)
  go_ret
  exact ⟨rfl, balloc0 _ _⟩
theorem SetIs.putted {w w' : World} {m n : Nat} {D : DataW Unit} {h : List Int} {id : Int} (hD : ∀ x : Int, -9223372036854775808 ≤ x → x ≤ 9223372036854775807 → Maps.has D (.int .i64 x) = decide (x ∈ h)) (hm : Maps.IsMap D)
    (ho : w'.ownsMap Tryz.prog 3 unitElem m n (D.put (.int .i64 id) (.agg []))) : SetIs w' m n (h ++ [id]) := by
  refine ⟨_, ho, fun x h1 h2 => ?_⟩
  by_cases e : x = id
  · subst e
    rw [Maps.has_put_same hm (by simp [WideAt.IsKeyLit]) (.agg [])]
    simp
  · rw [Maps.has_put_other (by intro q; injection q; contradiction) (.agg []), hD x h1 h2]
    simp [e]
theorem AgdAt.rowAt {w : World} {a m n : Nat} {v : Value} {h : List Int} (s : AgdAt w a m v h n) (hl : 0 < h.length) : ∃ g cap, v = .slice (some ⟨g, 0, none⟩) h.length cap ∧ RowAt w a g cap (.map (some m)) h := by
  obtain ⟨A, c, rfl, h1, h2, h3⟩ := own_form s.row
  rcases s.row.2 with ⟨_, h0⟩ | ⟨g, cap, cur, e, _⟩
  · omega
  · injection e with e1 e2 e3
    subst e1 e3
    exact ⟨g, c, rfl, s.blk, s.row, fun e => s.ne2 (by rw [e]; rfl)⟩
theorem own_pos {w : World} {e : TypeId} {size n base : Nat} {v : Value} {xs : List Value} (h : w.ownsRow base e size v n xs) (hn : 0 < n) : ∃ g cap, v = .slice (some ⟨g, 0, none⟩) n cap := by
  rcases h.2 with ⟨_, h0⟩ | ⟨g, cap, cur, e, _⟩
  · omega
  · exact ⟨g, cap, e⟩
theorem grown_own {w w' : World} {v : Value} (h : w.grownBy w' v.ownBlock) : Turn (fun j => v.ownBlock = some j) w w' := ⟨h.os, h.tape, h.output, h.size, fun k hk hn => h.block k hk (fun e => hn e.symm)⟩
/-- What the agenda is, just before its new number moves up. -/
structure AgdMid (w w2 : World) (a m g cap n : Nat) (v : Value) (h : List Int) (id : Int) : Prop where
  turn : Turn (foot a m v) w w2
  blk : Blk w2 a 225 #[v, .map (some m)]
  row : w2.ownsRow 0 3 1 (.slice (some ⟨g, 0, none⟩) (h.length + 1) cap) (h.length + 1) (hv (h ++ [id]))
  set : SetIs w2 m (n + 1) (h ++ [id])
  nea : a ≠ g
  nem : m ≠ g
  old : v.ownBlock = some g ∨ w.heap.size ≤ g
theorem AgdMid.mk' {w w1 w2 : World} {a m g cap n : Nat} {v : Value} {h : List Int} {id : Int} {D : DataW Unit} {e1 e2 : Obj} (s : AgdAt w a m v h n) (hD : ∀ x : Int, -9223372036854775808 ≤ x → x ≤ 9223372036854775807 → Maps.has D (.int .i64 x) = decide (x ∈ h)) (hm : Maps.IsMap D)
    (hown1 : w1.ownsMap Tryz.prog 3 unitElem m (n + 1) (D.put (.int .i64 id) (.agg []))) (hg1 : (w.alloc e1).grownBy w1 (some m)) (how : w2.ownsRow 0 3 1 (.slice (some ⟨g, 0, none⟩) (h.length + 1) cap) (h.length + 1) (hv h ++ [.int .i64 id]))
    (hg2 : w1.grownBy w2 v.ownBlock) (hat : (Value.slice (some ⟨g, 0, none⟩) (h.length + 1) cap).ownBlock = v.ownBlock ∨ (Value.slice (some ⟨g, 0, none⟩) (h.length + 1) cap).ownBlock = some (w1.heap.size + 1)) : AgdMid w w2 a m g cap n v h id := by
  have t1 : Turn (fun j => j = m) w w1 := (Turn.alloc w (fun j => j = m) e1).trans (grown_turn hg1) fun _ _ h => h
  have t2 := grown_own hg2
  have t12 : Turn (foot a m v) w w2 := (t1.more (T := foot a m v) fun j _ e => .inr (.inl e)).trans t2 fun j _ e => .inr (.inr e)
  have hsz := t1.size
  have hal := s.blk.lt
  have hml := s.set.lt
  have hold : v.ownBlock = some g ∨ w.heap.size ≤ g := by
    rcases hat with e | e
    · exact .inl e.symm
    · right
      have : g = w1.heap.size + 1 := Option.some.inj e
      omega
  refine ⟨t12, ?_, ?_, ?_, ?_, ?_, hold⟩
  · exact (s.blk.turned t1 s.ne1).turned t2 s.ne2
  · have : hv (h ++ [id]) = hv h ++ [.int .i64 id] := by simp [hv]
    rw [this]; exact how
  · exact SetIs.turned (SetIs.putted (w := w) hD hm hown1) t2 s.ne3
  · rintro rfl
    rcases hold with e | e
    · exact s.ne2 e
    · omega
  · rintro rfl
    rcases hold with e | e
    · exact s.ne3 e
    · omega
theorem AgdMid.rowAt {w w2 : World} {a m g cap n : Nat} {v : Value} {h : List Int} {id : Int} (q : AgdMid w w2 a m g cap n v h id) : RowAt (w2.setCell ⟨a, 0, none⟩ (.slice (some ⟨g, 0, none⟩) (h.length + 1) cap)) a g cap (.map (some m)) (h ++ [id]) := by
  have h1 := q.blk.set 0 (.slice (some ⟨g, 0, none⟩) (h.length + 1) cap)
  have hl : (h ++ [id]).length = h.length + 1 := by simp
  refine ⟨by rw [hl]; simpa using h1, ?_, q.nea⟩
  rw [hl]
  exact own_turned q.row (Turn.setCell w2 (fun j => j = a) _ _ rfl) fun k hk e => by
    have : g = k := Option.some.inj hk
    exact q.nea (by rw [this]; exact e.symm)
theorem AgdMid.fin {w w2 w3 : World} {a m g cap n : Nat} {v : Value} {h hh : List Int} {id : Int} (q : AgdMid w w2 a m g cap n v h id) (s : AgdAt w a m v h n) (hid : 1 ≤ id) (hid2 : id ≤ 1152921504606846976) (hin : id ∉ h) (hl : h.length < 100000000)
    (r : RowAt w3 a g cap (.map (some m)) hh) (t : Turn (fun x => x = g) (w2.setCell ⟨a, 0, none⟩ (.slice (some ⟨g, 0, none⟩) (h.length + 1) cap)) w3) (e : hh = putA h id) :
    AgdAt w3 a m (.slice (some ⟨g, 0, none⟩) hh.length cap) hh (n + 1) ∧ Turn (foot a m v) w w3 ∧ ∀ j, foot a m (.slice (some ⟨g, 0, none⟩) hh.length cap) j → foot a m v j ∨ w.heap.size ≤ j := by
  have hmem : ∀ x, x ∈ hh ↔ x ∈ h ∨ (x = id ∧ 1 ≤ id) := fun x => by rw [e]; exact putA_mem h id x
  have tA := Turn.setCell w2 (fun j => j = a) ⟨a, 0, none⟩ (.slice (some ⟨g, 0, none⟩) (h.length + 1) cap) rfl
  have hgl : ∀ j, j < w.heap.size → j = g → foot a m v j := fun j hj ej => by
    rcases q.old with k | k
    · exact .inr (.inr (by rw [k, ej]))
    · omega
  refine ⟨⟨r.blk, r.row, ?_, s.ne1, ?_, ?_, ?_, ?_, ?_⟩, ?_, ?_⟩
  · refine SetIs.congr ((q.set.turned tA (Ne.symm s.ne1)).turned t q.nem) fun x => ?_
    rw [hmem, List.mem_append, List.mem_singleton]
    exact ⟨fun k => k.elim .inl fun k => .inr ⟨k, hid⟩, fun k => k.elim .inl fun k => .inr k.1⟩
  · intro k; exact q.nea (Option.some.inj k).symm
  · intro k; exact q.nem (Option.some.inj k).symm
  · intro x hx
    rcases (hmem x).1 hx with k | ⟨rfl, _⟩
    · exact s.pos x k
    · exact ⟨hid, hid2⟩
  · rw [e]; exact putA_nodup s.nodup id
  · have := putA_len h id
    rw [e]; omega
  · exact (q.turn.trans (tA.more (T := foot a m v) fun j _ k => .inl k) fun _ _ k => k).trans t fun j hj k => hgl j hj k
  · rintro j (k | k | k)
    · exact .inl (.inl k)
    · exact .inl (.inr (.inl k))
    · have hgj : g = j := Option.some.inj k
      rcases q.old with k2 | k2
      · exact .inl (.inr (.inr (by rw [k2, hgj])))
      · right; omega
theorem putA_up {h : List Int} {id : Int} (hid : 1 ≤ id) (hin : id ∉ h) : putA h id = upG h.length (h ++ [id]) h.length := by
  unfold putA
  rw [if_neg]
  rintro (k | k)
  · omega
  · exact hin k
set_option maxRecDepth 100000 in
set_option maxHeartbeats 4000000 in
theorem agd_put_new (a m n : Nat) (v : Value) (h : List Int) (id : Int) (w : World) (s : AgdAt w a m v h n) (hid : 1 ≤ id) (hid2 : id ≤ 1152921504606846976) (hin : id ∉ h) (hl : h.length < 100000000) (hn : n ≤ 1000000000000000) :
    Calls Tryz.prog 144 #[.pointer (some ⟨a, 0, none⟩), .int .i64 id] w fun e w' => e = .returned (.bool true) ∧ ∃ v', AgdAt w' a m v' (putA h id) (n + 1) ∧ Turn (foot a m v) w w' ∧ ∀ j, foot a m v' j → foot a m v j ∨ w.heap.size ≤ j := by
  have c0 := s.blk.cell 0
  have c1 := s.blk.cell 1
  have ha := s.blk.lt
  obtain ⟨D, ho, hD⟩ := s.set
  have hkey := key_int (x := id) (by omega) (by omega)
  have hhas := hD id (by omega) (by omega)
  rw [decide_eq_false hin] at hhas
  have hmk := hide (fun w1 w2 g cap e1 => AgdMid.mk' (w1 := w1) (w2 := w2) (g := g) (cap := cap) (id := id) (e1 := e1) (e2 := e1) s hD ho.isMap)
  have hfin := hide (fun w2 w3 g cap hh q => AgdMid.fin (w := w) (w2 := w2) (w3 := w3) (g := g) (cap := cap) (hh := hh) (id := id) q s hid hid2 hin hl)
  have hpu := putA_up (h := h) hid hin
  have hrd := hide (fun w1 (k : (w.alloc (.cells #[] 227)).grownBy w1 (some m)) => (⟨s.blk.turned ((Turn.alloc w (fun j => j = m) _).trans (grown_turn k) fun _ _ h => h) s.ne1, own_turned s.row ((Turn.alloc w (fun j => j = m) _).trans (grown_turn k) fun _ _ h => h) (fun k hk e => s.ne3 (by rw [hk, e]))⟩ : Blk w1 a 225 #[v, .map (some m)] ∧ w1.ownsRow 0 3 1 v h.length (hv h)))
  have ho := hide ho
  have hsm : Hid (∀ x ∈ h ++ [id], x ≤ 9223372036854775807) := fun x hx => by
    rcases List.mem_append.1 hx with k | k
    · have := (s.pos x k).2; omega
    · rw [List.mem_singleton.1 k]; omega
  clear s hD
  obtain ⟨H, hH⟩ : ∃ H, Hid (putA h id = H) := ⟨_, rfl⟩
  rw [hH.out]
  have hH2 : Hid (upG h.length (h ++ [id]) h.length = H) := hpu.symm.trans hH.out
  clear hpu
  have hln : Hid ((h ++ [id]).length = h.length + 1) := by show _ = _; simp
  go_enter Tryz.func144, Tryz.ntmps144
  go_wp2_with (first
    | (at_lookup; refine wpList_lookup_own_unit _ rfl _ _ 223 rfl 3 227 keyInt Tryz.underlying223 (unit_zero _) m n D rfl ho.out _ _ rfl hkey ?_)
    | (at_mapUpdate; refine wpList_mapUpdate_own _ rfl _ _ _ 223 rfl 3 227 keyInt Tryz.underlying223 (unitElem (H := Unit)) m n _ rfl (ho.out.alloc _) (by unfold maxLen; omega) _ _ _ rfl rfl hkey _ [] unitElem_mk ?_; intro w1 hown1 hgrow1; clear c0 c1; have c0 := (hrd.out _ hgrow1).1.cell 0; have hrw := hide (hrd.out _ hgrow1).2; have hown1 := hide hown1; have hgrow1 := hide hgrow1)
    | (at_builtin; refine wpList_app1 elIntA rfl (.tmp 34) (.tmp 36) rfl 0 _ _ _ [.int .i64 id] 3 rfl hrw.out rfl rfl (one1 rfl) (by omega) (Nat.zero_le _) ?_; intro v1 w2 how hb2 hgr2 hat2; obtain ⟨g, cap, rfl⟩ := own_pos how (by omega); have q := hide (hmk.out _ _ _ _ _ hown1.out hgrow1.out how hgr2 hat2); clear c0 how hb2 hgr2 hat2; have c0 := q.out.blk.cell 0; have f0 := q.out.blk.free 0))
  clear hmk hrd ho hkey hhas
  have hrow := hide q.out.rowAt
  have hn1 : Hid ((h ++ [id]).length = h.length + 1) := by show _ = _; simp
  have hfn := hide (fun w3 hh => hfin.out w2 w3 g cap hh q.out)
  clear hfin q
  obtain ⟨n1, hn1'⟩ : ∃ n1, h.length + 1 = n1 := ⟨_, rfl⟩
  obtain ⟨n0, hn0⟩ : ∃ n0, h.length = n0 := ⟨_, rfl⟩
  rw [hn1'] at hn1
  have hn1l : n1 ≤ 100000000 := by omega
  have hn01 : n0 < n1 := by omega
  generalize (w2.setCell ⟨a, 0, none⟩ (.slice (some ⟨g, 0, none⟩) (h.length + 1) cap)) = W3 at *
  rw [hn0] at hH2 ⊢
  clear hn0 hn1'
  go_loopw [7] (fun kv wr => ∃ (hh : List Int) (i f : Nat), kv = .int .i64 i ∧ i < n1 ∧ Hid (hh.length = n1) ∧ Hid (i ≤ f) ∧ Hid (upG f hh i = H) ∧ Hid (∀ x ∈ hh, x ≤ 9223372036854775807) ∧ Hid (RowAt wr a g cap (.map (some m)) hh) ∧ Hid (Turn (fun x => x = g) W3 wr)) (fun kv _ => (intOf kv).toNat)
  case atStart => exact ⟨h ++ [id], n0, n0, rfl, hn01, hn1, Nat.le_refl _, hH2, hsm, hrow, Turn.refl _ _⟩
  case round =>
    obtain ⟨hh, i, f, rfl, hi, hlen, hf, hgo, hsm, hr, ht⟩ := hrel
    clear hrow
    have c0 := hr.out.blk.cell 0
    rw [show (#[Value.slice (some ⟨g, 0, none⟩) hh.length cap, .map (some m)] : Array Value)[0]? = some (.slice (some ⟨g, 0, none⟩) hh.length cap) from rfl, hlen.out] at c0
    by_cases hi0 : 0 < i
    · obtain ⟨p, hp⟩ : ∃ p : Nat, ((i : Int) - 1) / 2 = (p : Int) := ⟨(i - 1) / 2, by omega⟩
      have hpi : p < i := by omega
      have hp2 : Hid ((i - 1) / 2 = p) := by show _ = _; omega
      obtain ⟨ci, fi⟩ := hr.out.at (i := i) (by rw [hlen.out]; exact hi)
      obtain ⟨cp, fp⟩ := hr.out.at (i := p) (by rw [hlen.out]; omega)
      have hA := hide (fun W => ahead_c (hh.getD i 0) (hh.getD p 0) W (small_at hsm.out i) (small_at hsm.out p))
      obtain ⟨f0, hf0⟩ : ∃ f0, f = f0 + 1 := ⟨f - 1, by have := hf.out; omega⟩
      have hg0 : Hid ((if 0 < i ∧ aheadF (hh.getD i 0) (hh.getD p 0) = true then upG f0 (swapL hh i p) p else hh) = H) := by
        show _ = _
        have := hgo.out
        rw [hf0, upG, hp2.out] at this
        exact this
      have hff : Hid (p ≤ f0) := by show _ ≤ _; have := hf.out; omega
      have hi1 : (i : Int) < (n1 : Int) := by omega
      have hp1 : (p : Int) < (n1 : Int) := by omega
      have hi0' : (0 : Int) < (i : Int) := by omega
      clear hgo
      by_cases hah : aheadF (hh.getD i 0) (hh.getD p 0) = true
      · rw [hah] at hA
        have hg1 : Hid (upG f0 (swapL hh i p) p = H) := by
          have := hg0.out
          rw [if_pos ⟨hi0, hah⟩] at this
          exact this
        clear hg0 hah
        have hS := hide (fun W (k : RowAt W a g cap (.map (some m)) hh) => agd_swap a g cap i p (.map (some m)) hh W k (by rw [hlen.out]; exact hi) (by rw [hlen.out]; omega) (by omega) (by rw [hlen.out]; omega))
        have hls : Hid ((swapL hh i p).length = n1) := (swapL_len hh i p).trans hlen.out
        have hss : Hid (∀ x ∈ swapL hh i p, x ≤ 9223372036854775807) := small_swap (by rw [hlen.out]; exact hi) (by rw [hlen.out]; omega) hsm.out
        generalize hh.getD i 0 = x at *
        generalize hh.getD p 0 = y at *
        go_wp2_with fail
        go_quiet ((go_at_call 180; exact quiet_same (hA.out _)))
        go_wp2_with fail
        refine Calls.mono (hS.out _ (hr.out.drewN _)) ?_
        rintro e w5 ⟨⟨v5, rfl⟩, hr5, ht5⟩
        have hr5 := hide hr5
        have ht5 := hide ht5
        go_wp2_with fail
        go_roundw
        case rel => exact ⟨swapL hh i p, p, f0, by rw [hp], by omega, hls, hff, hg1, hss, hr5, (ht.out.drewN _).trans ht5.out fun _ _ h => h⟩
        case measure => simp [intOf]; omega
      · have hah2 : aheadF (hh.getD i 0) (hh.getD p 0) = false := by simpa using hah
        rw [hah2] at hA
        have hg1 : Hid (hh = H) := by
          have := hg0.out
          rw [if_neg (fun k => hah k.2)] at this
          exact this
        clear hg0 hah hah2
        have hHh := hg1.out
        subst hHh
        generalize hh.getD i 0 = x at *
        generalize hh.getD p 0 = y at *
        go_wp2_with fail
        go_quiet ((go_at_call 180; exact quiet_same (hA.out _)))
        go_wp2_with fail
        go_ret
        exact ⟨rfl, _, hfn.out _ hh (hr.out.drewN _) (ht.out.drewN _) hH.out.symm⟩
    · obtain rfl : i = 0 := by omega
      have hHh : hh = H := by
        have := hgo.out
        cases f with
        | zero => exact this
        | succ f0 =>
          rw [upG, if_neg (fun k => by omega)] at this
          exact this
      subst hHh
      clear hgo
      go_wp2_with fail
      go_quiet (fail)
      go_wp2_with fail
      go_ret
      exact ⟨rfl, _, hfn.out _ hh (hr.out.drewN _) (ht.out.drewN _) hH.out.symm⟩
/-- What Put does, in all. -/
theorem agd_put (a m n : Nat) (v : Value) (h : List Int) (id : Int) (w : World) (s : AgdAt w a m v h n) (hid2 : id ≤ 1152921504606846976) (hl : h.length < 100000000) (hn : n ≤ 1000000000000000) :
    Calls Tryz.prog 144 #[.pointer (some ⟨a, 0, none⟩), .int .i64 id] w fun e w' => (∃ b, e = .returned (.bool b)) ∧ ∃ v', AgdAt w' a m v' (putA h id) (n + 1) ∧ Turn (foot a m v) w w' ∧ ∀ j, foot a m v' j → foot a m v j ∨ w.heap.size ≤ j := by
  have hmono : AgdAt w a m v h (n + 1) := by
    obtain ⟨D, ho, hD⟩ := s.set
    exact ⟨s.blk, s.row, ⟨D, ho.mono (Nat.le_succ n), hD⟩, s.ne1, s.ne2, s.ne3, s.pos, s.nodup, s.len⟩
  by_cases hid : id < 1
  · have e0 : putA h id = h := if_pos (.inl hid)
    refine (agd_put_no a id w hid).mono ?_
    rintro e w' ⟨rfl, rfl⟩
    exact ⟨⟨_, rfl⟩, v, by rw [e0]; exact hmono, Turn.refl _ _, fun j hj => .inl hj⟩
  · by_cases hin : id ∈ h
    · have e0 : putA h id = h := if_pos (.inr hin)
      refine (agd_put_in a m n v h id w s (by omega) hid2 hin).mono ?_
      rintro e w' ⟨rfl, hb⟩
      exact ⟨⟨_, rfl⟩, v, by rw [e0]; exact hmono.turned (Below.turn hb fun _ => False) fun _ _ k => k, Below.turn hb _, fun j hj => .inl hj⟩
    · refine (agd_put_new a m n v h id w s (by omega) hid2 hin hl hn).mono ?_
      rintro e w' ⟨rfl, v', h1, h2, h3⟩
      exact ⟨⟨_, rfl⟩, v', h1, h2, h3⟩
end Go.Proofs.YteebghoijaaakaaGreat
/- The walks of layer 10, on: what is taken off the agenda; a new one. By the prover of this repo. -/
namespace Go.Proofs.YteebghoijaaakaaGreat
open Go.RowKit
open TwigM RollM StoM

theorem agd_sink0 (a g cap : Nat) (mv : Value) (w : World) (c0 : w.cell? ⟨a, 0, none⟩ = some (.slice (some ⟨g, 0, none⟩) 0 cap)) :
    Calls Tryz.prog 178 #[.pointer (some ⟨a, 0, none⟩)] w fun e w' => (∃ v, e = .returned v) ∧ w = w' := by
  go_enter Tryz.func178, Tryz.ntmps178
  go_wp2_with fail
  refine wp_loop_rounds 1 ?_
  rw [rounds_succ]
  go_wp2_with fail
  refine wp_loop_rounds 1 ?_
  rw [rounds_succ]
  go_wp2_with fail
  refine bodyPost_ret (results_none rfl _ _ _) rfl ?_
  exact ⟨⟨_, rfl⟩, rfl⟩
theorem own_take {w : World} {e : TypeId} {n k base g cap : Nat} {xs : List Value} (h : w.ownsRow base e 1 (.slice (some ⟨g, 0, none⟩) n cap) n xs) (hk : k ≤ n) : w.ownsRow base e 1 (.slice (some ⟨g, 0, none⟩) k cap) k (xs.take k) := by
  obtain ⟨h1, h2⟩ := h
  refine ⟨by rw [List.length_take]; omega, ?_⟩
  rcases h2 with ⟨h2, _⟩ | ⟨g', cap', cur, e1, hb, hg, hc1, hc2, hc3, hc4⟩
  · simp at h2
  · injection e1 with e1 e2 e3
    simp only [Option.some.injEq, Addr.mk.injEq, and_true] at e1
    subst e1 e3
    refine .inr ⟨g, cap, cur, rfl, hb, hg, by omega, hc2, hc3, ?_⟩
    rw [← hc4, List.take_take]
    congr 1
    omega
theorem hv_take (h : List Int) (k : Nat) : (hv h).take k = hv (h.take k) := by unfold hv; rw [List.map_take]
theorem SetIs.deld {w w' : World} {m n : Nat} {D : DataW Unit} {h : List Int} {id : Int} (hD : ∀ x : Int, -9223372036854775808 ≤ x → x ≤ 9223372036854775807 → Maps.has D (.int .i64 x) = decide (x ∈ h))
    (ho : w'.ownsMap Tryz.prog 3 unitElem m n (D.del (.int .i64 id))) {h' : List Int} (hh : ∀ x, x ∈ h' ↔ x ∈ h ∧ x ≠ id) : SetIs w' m n h' := by
  refine ⟨_, ho, fun x h1 h2 => ?_⟩
  by_cases e : x = id
  · subst e
    rw [Maps.has_del_same]
    symm
    rw [decide_eq_false_iff_not, hh]
    exact fun k => k.2 rfl
  · rw [Maps.has_del_other (by intro q; injection q; contradiction), hD x h1 h2]
    rw [Bool.eq_iff_iff, decide_eq_true_eq, decide_eq_true_eq, hh]
    exact ⟨fun k => ⟨k, e⟩, fun k => k.1⟩
theorem mapTurned_turn {w w' : World} {m : Nat} (h : w.mapTurned w' m) : Turn (fun j => j = m) w w' := grown_turn h.grown
/-- Where the agenda stands before what stands first sinks. -/
theorem pop_row {w : World} {a m n g cap : Nat} {h : List Int} (s : AgdAt w a m (.slice (some ⟨g, 0, none⟩) h.length cap) h n) (hl : 0 < h.length) (hne : a ≠ g) :
    RowAt ((w.setCell ⟨g, 0, none⟩ (.int .i64 (h.getD (h.length - 1) 0))).setCell ⟨a, 0, none⟩ (.slice (some ⟨g, 0, none⟩) (h.length - 1) cap)) a g cap (.map (some m)) ((h.set 0 (h.getD (h.length - 1) 0)).take (h.length - 1)) := by
  have r : RowAt w a g cap (.map (some m)) h := ⟨s.blk, s.row, hne⟩
  have r1 := r.set 0 (h.getD (h.length - 1) 0)
  have hlen : ((h.set 0 (h.getD (h.length - 1) 0)).take (h.length - 1)).length = h.length - 1 := by rw [List.length_take, List.length_set]; omega
  have hr2 := own_take r1.row (k := h.length - 1) (by rw [List.length_set]; omega)
  rw [hv_take] at hr2
  have hb := r1.blk.set 0 (.slice (some ⟨g, 0, none⟩) (h.length - 1) cap)
  refine ⟨by rw [hlen]; simpa using hb, ?_, hne⟩
  rw [hlen]
  exact own_turned hr2 (Turn.setCell _ (fun j => j = a) _ _ rfl) fun k hk e => by
    have : g = k := Option.some.inj hk
    exact hne (by rw [this]; exact e.symm)
theorem map_turned {w w' : World} {S : Nat → Prop} {m n : Nat} {D : DataW Unit} (h : w.ownsMap Tryz.prog 3 unitElem m n D) (t : Turn S w w') (hm : ¬ S m) : w'.ownsMap Tryz.prog 3 unitElem m n D := by
  have hlt := h.lt
  obtain ⟨es, clock, hb, F, hs, e⟩ := h
  exact ⟨es, clock, (t.block m hlt hm).trans hb, F, hs, e⟩
theorem pop_fin {w w5 w6 : World} {a m n g cap c1 : Nat} {x : Int} {T hh : List Int} {D : DataW Unit} (s : AgdAt w a m (.slice (some ⟨g, 0, none⟩) c1 cap) (x :: T) n) (hne : a ≠ g)
    (hD : ∀ x' : Int, -9223372036854775808 ≤ x' → x' ≤ 9223372036854775807 → Maps.has D (.int .i64 x') = decide (x' ∈ x :: T))
    (r : RowAt w5 a g cap (.map (some m)) hh) (t : Turn (fun j => j = a ∨ j = g) w w5) (ho : w6.ownsMap Tryz.prog 3 unitElem m n (D.del (.int .i64 x))) (tm : Turn (fun j => j = m) w5 w6) (e : hh = popA (x :: T)) :
    AgdAt w6 a m (.slice (some ⟨g, 0, none⟩) hh.length cap) hh n ∧ Turn (foot a m (.slice (some ⟨g, 0, none⟩) c1 cap)) w w6 := by
  have hp := popA_perm x T
  rw [← e] at hp
  have hnd := s.nodup
  have hx : x ∉ T := (List.nodup_cons.1 hnd).1
  have hgm : ¬ g = m := fun k => s.ne3 (by rw [← k]; rfl)
  refine ⟨⟨r.blk.turned tm s.ne1, own_turned r.row tm (fun k hk e => hgm (by have : g = k := Option.some.inj hk; rw [this]; exact e)), SetIs.deld (w := w) hD ho fun y => ?_, s.ne1, s.ne2, s.ne3, ?_, ?_, ?_⟩, ?_⟩
  · rw [hp.mem_iff, List.mem_cons]
    constructor
    · intro hy
      exact ⟨.inr hy, fun k => hx (k ▸ hy)⟩
    · rintro ⟨k | k, h2⟩
      · exact absurd k h2
      · exact k
  · intro y hy
    exact s.pos y (List.mem_cons_of_mem _ (hp.mem_iff.1 hy))
  · exact hp.nodup_iff.2 (List.nodup_cons.1 hnd).2
  · have h1 := hp.length_eq
    have h2 := s.len
    rw [List.length_cons] at h2
    omega
  · exact (t.more (T := foot a m (.slice (some ⟨g, 0, none⟩) c1 cap)) fun j _ k => k.elim .inl fun k => .inr (.inr (by rw [k]; rfl))).trans tm fun j _ k => .inr (.inl k)
set_option maxRecDepth 100000 in
set_option maxHeartbeats 4000000 in
theorem agd_pop (a m n : Nat) (v : Value) (x : Int) (T : List Int) (w : World) (s : AgdAt w a m v (x :: T) n) :
    Calls Tryz.prog 141 #[.pointer (some ⟨a, 0, none⟩)] w fun e w' => e = .returned (.tuple #[.int .i64 x, .bool true]) ∧ ∃ v', AgdAt w' a m v' (popA (x :: T)) n ∧ Turn (foot a m v) w w' ∧ v'.ownBlock = v.ownBlock := by
  obtain ⟨g, cap, rfl, r⟩ := s.rowAt (by simp)
  obtain ⟨D, ho, hD⟩ := s.set
  have hL := hide (agd_len a m n _ _ w s)
  have c0 := s.blk.cell 0
  have c1 := s.blk.cell 1
  have f0 := s.blk.free 0
  obtain ⟨ha, hg⟩ := r.lt
  have hne := r.ne
  have hpr := hide (pop_row s (by simp) hne)
  obtain ⟨cx, fx⟩ := r.at (i := 0) (by simp)
  obtain ⟨cl, _⟩ := r.at (i := (x :: T).length - 1) (by simp)
  have hcap : (x :: T).length ≤ cap := by
    obtain ⟨A, c, e, h1, h2, h3⟩ := own_form s.row
    injection e with e1 e2 e3
    rw [e3]; exact h2
  have hcapm : cap ≤ 9223372036854775807 := by
    obtain ⟨A, c, e, h1, h2, h3⟩ := own_form s.row
    injection e with e1 e2 e3
    unfold maxLen at h3
    omega
  have hlen := s.len
  have hsx := s.pos x (by simp)
  have hkey := key_int (x := x) (by omega) (by omega)
  have hsmall : ∀ y ∈ x :: T, y ≤ 9223372036854775807 := fun y hy => by have := (s.pos y hy).2; omega
  have hml := s.set.lt
  have hme := s.ne1
  have hgm : ¬ g = m := fun k => s.ne3 (by rw [← k]; rfl)
  have hfin := hide (fun w5 w6 hh => pop_fin (w5 := w5) (w6 := w6) (hh := hh) s hne hD)
  clear s hD r
  have hpop : popA (x :: T) = dnG (x :: T).length (((x :: T).set 0 ((x :: T).getD ((x :: T).length - 1) 0)).take ((x :: T).length - 1)) 0 := rfl
  obtain ⟨n1, hn1⟩ : ∃ n1, T.length = n1 := ⟨_, rfl⟩
  rw [hpop] at hfin ⊢
  simp only [List.length_cons, hn1, Nat.add_sub_cancel] at c0 cl hcap hlen hpr hfin hL hpop ⊢
  obtain ⟨R, hR⟩ : ∃ R, ((x :: T).set 0 ((x :: T).getD n1 0)).take n1 = R := ⟨_, rfl⟩
  have hRl : Hid (R.length = n1) := by show _ = _; rw [← hR, List.length_take, List.length_set, List.length_cons]; omega
  have hRs : Hid (∀ y ∈ R, y ≤ 9223372036854775807) := by
    intro y hy
    rw [← hR] at hy
    rcases List.mem_or_eq_of_mem_set (List.mem_of_mem_take hy) with k | k
    · exact hsmall y k
    · rw [k]; exact small_at hsmall n1
  rw [hR] at hpr hfin ⊢
  clear hpop hR hsmall
  rw [show (x :: T).getD 0 0 = x from rfl] at cx
  generalize (x :: T).getD n1 0 = y at *
  have ho := hide ho
  have hS : Hid (∀ W, RowAt W a g cap (.map (some m)) R → Calls Tryz.prog 178 #[.pointer (some ⟨a, 0, none⟩)] W fun e w' => (∃ v, e = .returned v) ∧ RowAt w' a g cap (.map (some m)) (dnG (n1 + 1) R 0) ∧ Turn (fun x => x = g) W w') := by
    intro W k
    have hl0 := hRl.out
    by_cases h0 : n1 = 0
    · have hR0 : R = [] := List.length_eq_zero_iff.1 (by omega)
      subst hR0
      rw [dnG_nil]
      refine (agd_sink0 a g cap (.map (some m)) W (k.blk.cell 0)).mono ?_
      rintro e w' ⟨hv, rfl⟩
      exact ⟨hv, k, Turn.refl _ _⟩
    · exact agd_sink (n1 + 1) a g cap (.map (some m)) R W k hRs.out (by omega) (by omega) (by omega)
  have hn1p : (n1 : Int) < ((n1 + 1 : Nat) : Int) := by omega
  go_enter Tryz.func141, Tryz.ntmps141
  go_wp2_with fail
  refine Calls.mono hL.out ?_
  rintro e w1 ⟨rfl, rfl⟩
  go_wp2_with fail
  go_quiet (fail)
  go_wp2_with fail
  go_region
  go_wp2_with fail
  have hW : Hid (RowAt (((w.drewN (nq + 1)).setCell ⟨g, 0, none⟩ (.int .i64 y)).setCell ⟨a, 0, none⟩ (.slice (some ⟨g, 0, none⟩) n1 cap)) a g cap (.map (some m)) R) := ⟨hpr.out.blk, hpr.out.row, hpr.out.ne⟩
  have hT : Hid (Turn (fun j => j = a ∨ j = g) w (((w.drewN (nq + 1)).setCell ⟨g, 0, none⟩ (.int .i64 y)).setCell ⟨a, 0, none⟩ (.slice (some ⟨g, 0, none⟩) n1 cap))) :=
    (((Turn.refl (fun j => j = a ∨ j = g) w).drewN (nq + 1)).trans (Turn.setCell _ (fun j => j = a ∨ j = g) ⟨g, 0, none⟩ _ (.inr rfl)) fun _ _ h => h).trans (Turn.setCell _ (fun j => j = a ∨ j = g) ⟨a, 0, none⟩ _ (.inl rfl)) fun _ _ h => h
  generalize (((w.drewN (nq + 1)).setCell ⟨g, 0, none⟩ (.int .i64 y)).setCell ⟨a, 0, none⟩ (.slice (some ⟨g, 0, none⟩) n1 cap)) = W5 at *
  refine Calls.mono (hS.out W5 hW.out) ?_
  rintro e w6 ⟨⟨v6, rfl⟩, hr6, ht6⟩
  have hT6 := hide (hT.out.trans ht6 fun j _ k => .inr k)
  have ho6 := hide (map_turned ho.out hT6.out (fun k => k.elim (fun k => hme k.symm) fun k => hgm k.symm))
  have c1 := hr6.blk.cell 1
  have hr6 := hide hr6
  clear hT hW ht6 c0 cx cl f0 fx
  go_wp2_with (at_delete; refine wpList_delete_own _ rfl _ _ 223 3 rfl 227 keyInt Tryz.underlying223 _ m n D rfl ho6.out _ _ rfl hkey ?_; intro w7 hown7 hturn7; have hown7 := hide hown7; have hturn7 := hide hturn7)
  go_ret2
  refine ⟨rfl, _, (hfin.out w6 w7 _ hr6.out hT6.out hown7.out (mapTurned_turn hturn7.out) rfl).1, (hfin.out w6 w7 _ hr6.out hT6.out hown7.out (mapTurned_turn hturn7.out) rfl).2, rfl⟩
end Go.Proofs.YteebghoijaaakaaGreat
/- The walks of layer 10, on: a new agenda. By the prover of this repo. -/
namespace Go.Proofs.YteebghoijaaakaaGreat
open Go.RowKit
open TwigM RollM StoM

/-- Numbers as cells. -/
def inc (l : List Int) (i : Nat) : Value := .int .i64 (l.getD i 0)
theorem puts_take (l : List Int) (i : Nat) (hi : i < l.length) : putsA [] (l.take (i + 1)) = putA (putsA [] (l.take i)) (l.getD i 0) := by
  rw [List.take_succ_eq_append_getElem hi]
  unfold putsA
  rw [List.foldl_append, List.getD_eq_getElem?_getD, List.getElem?_eq_getElem hi]
  rfl
theorem puts_len0 (l : List Int) : (putsA [] l).length ≤ l.length := by have := putsA_len l []; simpa using this
set_option maxRecDepth 100000 in
set_option maxHeartbeats 1000000 in
theorem agd_new (A : Option Addr) (c : Nat) (l : List Int) (w : World) (hr : Rd w A l.length 1 (inc l)) (hl : l.length < 100000000) (hb : ∀ x ∈ l, x ≤ 1152921504606846976) :
    Calls Tryz.prog 138 #[.slice A l.length c] w fun e w' => ∃ a m v, e = .returned (.pointer (some ⟨a, 0, none⟩)) ∧ AgdAt w' a m v (putsA [] l) l.length ∧ (∀ j, foot a m v j → w.heap.size ≤ j) ∧ Below w.heap.size w w' := by
  have hmm := @run_makeMap Tryz.prog
  have hrd := hide (fun (W : World) (hW : Below w.heap.size w W) => hr.kept hW)
  have hbd : Hid (∀ i, l.getD i 0 ≤ 1152921504606846976) := fun i => by
    rw [List.getD_eq_getElem?_getD]
    by_cases hi : i < l.length
    · rw [List.getElem?_eq_getElem hi]; exact hb _ (List.getElem_mem hi)
    · rw [List.getElem?_eq_none (by omega)]; show (0 : Int) ≤ _; omega
  have htk := hide (puts_take l)
  have hln : Hid (∀ i, (putsA [] (l.take i)).length ≤ i) := fun i => by
    have := puts_len0 (l.take i)
    rw [List.length_take] at this
    omega
  have hall : Hid (∀ n, l.length = n → putsA [] (l.take n) = putsA [] l) := fun n e => by rw [← e, List.take_length]
  obtain ⟨n, hn⟩ : ∃ n, l.length = n := ⟨_, rfl⟩
  have hal := hide (hall.out n hn)
  have hnh := hide hn
  rw [hn] at hl hrd ⊢
  have htk2 : Hid (∀ i, i < n → putsA [] (l.take (i + 1)) = putA (putsA [] (l.take i)) (l.getD i 0)) := fun i hi => htk.out i (by rw [hn]; exact hi)
  clear hr hb htk hall hn
  have hst : Hid (AgdAt ((w.alloc (.map #[] 0)).alloc (.cells #[.slice none 0 0, .map (some w.heap.size)] 225)) (w.heap.size + 1) w.heap.size (.slice none 0 0) (putsA [] (l.take 0)) 0) := by
    have e0 : putsA [] (l.take 0) = [] := by rw [List.take_zero]; rfl
    show AgdAt _ _ _ _ _ _
    rw [e0]
    refine ⟨Blk.made_at _ _ _ (by simp), World.ownsRow_nil _ _ _ _, (SetIs.made w).turned (Turn.alloc _ (fun _ => False) _) (fun h => h), by omega, by simp [Value.ownBlock], by simp [Value.ownBlock], by simp, List.nodup_nil, by simp⟩
  have hbl : Hid (Below w.heap.size w ((w.alloc (.map #[] 0)).alloc (.cells #[.slice none 0 0, .map (some w.heap.size)] 225))) := balloc (balloc0 w _) _
  go_enter Tryz.func138, Tryz.ntmps138
  go_wp2_with fail
  generalize ((w.alloc (.map #[] 0)).alloc (.cells #[.slice none 0 0, .map (some w.heap.size)] 225)) = W1 at *
  go_loopw [11] (fun kv wr => ∃ (i : Nat), kv = .int .i64 i ∧ i ≤ n ∧ Hid (∃ v, AgdAt wr (w.heap.size + 1) w.heap.size v (putsA [] (l.take i)) i ∧ ∀ j, foot (w.heap.size + 1) w.heap.size v j → w.heap.size ≤ j) ∧ Hid (Below w.heap.size w wr)) (fun kv _ => n - (intOf kv).toNat)
  case atStart =>
    refine ⟨0, rfl, by omega, ⟨_, hst.out, ?_⟩, hbl⟩
    rintro j (e | e | e)
    · omega
    · omega
    · cases e
  case round =>
    obtain ⟨i, rfl, hi, hag, hbel⟩ := hrel
    clear hst hbl
    by_cases hlt : i < n
    · obtain ⟨b, off, rfl, hb, hcell⟩ := hrd.out wr hbel.out (by omega)
      have cc := hcell i (by omega)
      have hx := hbd.out i
      obtain ⟨v, hv, hf⟩ := hag.out
      have hP := hide (agd_put (w.heap.size + 1) w.heap.size i v (putsA [] (l.take i)) (l.getD i 0) wr hv hx (by have := hln.out i; omega) (by omega))
      rw [← htk2.out i hlt] at hP
      replace hf := hide hf
      unfold inc at cc
      have hi1 : (i : Int) < (n : Int) := by omega
      clear hag hv hcell
      generalize l.getD i 0 = x at *
      go_wp2_with fail
      refine Calls.mono hP.out ?_
      rintro e w2 ⟨⟨bb, rfl⟩, v', h1, h2, h3⟩
      have h1 := hide h1
      have h2 := hide h2
      have h3 := hide h3
      go_wp2_with fail
      go_roundw
      case rel =>
        have hsz := hbel.out.size
        refine ⟨i + 1, by go_num, by omega, ⟨v', h1.out, fun j hj => ?_⟩, hbel.out.trans (h2.out.below _ hsz fun j hj hf2 => absurd (hf.out j hf2) (by omega))⟩
        rcases h3.out j hj with k | k
        · exact hf.out j k
        · omega
      case measure => simp [intOf]; omega
    · obtain rfl : i = n := by omega
      obtain ⟨v, hv, hf⟩ := hag.out
      rw [hal.out] at hv
      have hv := hide hv
      have hf := hide hf
      clear hag
      go_wp2_with fail
      go_ret
      exact ⟨_, _, v, rfl, hv.out, hf.out, hbel.out⟩
end Go.Proofs.YteebghoijaaakaaGreat
/- The walks of layer 10, on: the cap, what a parent's children weigh, and a fold. By the prover of this repo. -/
namespace Go.Proofs.YteebghoijaaakaaGreat
open Go.RowKit
open TwigM RollM StoM

theorem div_c (n k : Int) (w : World) (hn : 0 ≤ n) (hk : 1 ≤ k) (hn2 : n ≤ 72057594037927935) (hk2 : k ≤ 9223372036854775807) :
    Calls Tryz.prog 177 #[.int .i64 n, .int .i64 k] w fun e w' => e = .returned (.tuple #[.int .i64 (n / k), .bool true]) ∧ w = w' := by
  have h1 : 0 ≤ n / k := Int.ediv_nonneg hn (by omega)
  have h2 : n / k ≤ n := Int.ediv_le_self k hn
  have h3 : Int.tdiv n k = n / k := Int.tdiv_eq_ediv_of_nonneg hn
  have hk0 : ¬ k = 0 := by omega
  go_enter Tryz.func177, Tryz.ntmps177
  go_wp2_with fail
  go_ret2
  exact ⟨rfl, rfl⟩
theorem cap_c (n k : Int) (w : World) (hn : 0 ≤ n) (hk : 1 ≤ k) (hn2 : n ≤ 72057594037927935) (hk2 : k ≤ 9223372036854775807) :
    Calls Tryz.prog 137 #[.int .i64 n, .int .i64 k] w fun e w' => e = .returned (.int .i64 (n / k)) ∧ w = w' := by
  have hD := hide (fun W => div_c n k W hn hk hn2 hk2)
  go_enter Tryz.func137, Tryz.ntmps137
  go_wp2_with fail
  refine Calls.mono (hD.out _) ?_
  rintro e w1 ⟨rfl, rfl⟩
  go_wp2_with fail
  go_ret
  exact ⟨rfl, rfl⟩
theorem kids_yes {L x : Int} (h1 : 1 ≤ L) (h2 : L ≤ 48) (h3 : 1 ≤ x) (h4 : x < pw L) (w : World) :
    Calls Tryz.prog 150 #[.int .i64 L, .int .i64 x] w fun e w' => e = .returned (.tuple #[.int .i64 (2 * x), .int .i64 (2 * x + 1), .bool true]) ∧ w = w' := by
  have h := kids_c L x w
  unfold kidsF at h
  rw [if_pos ⟨right_mk h1 h2 h3 (by omega), h4⟩] at h
  exact h
theorem kids_no {L x : Int} (h : ¬ (1 ≤ L ∧ L ≤ 48 ∧ 1 ≤ x ∧ x < pw L)) (w : World) :
    Calls Tryz.prog 150 #[.int .i64 L, .int .i64 x] w fun e w' => e = .returned (.tuple #[.int .i64 0, .int .i64 0, .bool false]) ∧ w = w' := by
  have k := kids_c L x w
  unfold kidsF at k
  rw [if_neg (fun q => h ⟨(right_iff.1 q.1).1, (right_iff.1 q.1).2.1, (right_iff.1 q.1).2.2.1, q.2⟩)] at k
  exact k
theorem PoolAt.uni {w : World} {p : Nat} {kd L : Int} {l : List Nd} {F : Nat → Prop} (h : PoolAt w p kd L l F) : 1 ≤ L ∧ L ≤ 48 := by
  rcases h.two with k | k <;> omega
set_option maxRecDepth 100000 in
theorem fold_mass (p : Nat) (kd L x : Int) (l : List Nd) (F : Nat → Prop) (w : World) (h : PoolAt w p kd L l F) (hx1 : 1 ≤ x) (hx2 : x < pw L) :
    Calls Tryz.prog 179 #[.pointer (some ⟨p, 0, none⟩), .int .i64 x] w fun e w' => e = .returned (.tuple #[.int .i64 (pairS l x), .int .i64 (pairS l x + wt x l)]) ∧ Below w.heap.size w w' := by
  obtain ⟨hL1, hL2⟩ := h.uni
  have hp48 := pw_le48 hL2
  have hl := hide (pool_l p kd L l F w h)
  have hK := hide (fun W => kids_yes hL1 hL2 hx1 hx2 W)
  have hG := hide (fun y (hy : y ≤ 9223372036854775807) (W : World) (hW : Below w.heap.size w W) => pool_get p kd L y l F W (h.kept hW) hy)
  have s1 := wt_le_sum h.canon (2 * x)
  have s2 := wt_le_sum h.canon (2 * x + 1)
  have s3 := wt_le_sum h.canon x
  have n1 := wt_nonneg (2 * x) l h.canon.cntL
  have n2 := wt_nonneg (2 * x + 1) l h.canon.cntL
  have n3 := wt_nonneg x l h.canon.cntL
  have hs := h.sum
  unfold pairS
  clear h
  go_enter Tryz.func179, Tryz.ntmps179
  go_wp2_with fail
  refine Calls.mono hl.out ?_
  rintro e w1 ⟨rfl, hb1⟩
  have hb1 := hide hb1
  go_wp2_with fail
  refine Calls.mono (hK.out _) ?_
  rintro e w2 ⟨rfl, rfl⟩
  go_wp2_with fail
  refine Calls.mono (hG.out (2 * x) (by omega) _ hb1.out) ?_
  rintro e w2 ⟨rfl, hb2⟩
  have hb2 := hide (hb1.out.trans (hb2.mono hb1.out.size))
  go_wp2_with fail
  refine Calls.mono (hG.out (2 * x + 1) (by omega) _ hb2.out) ?_
  rintro e w3 ⟨rfl, hb3⟩
  have hb3 := hide (hb2.out.trans (hb3.mono hb2.out.size))
  go_wp2_with fail
  refine Calls.mono (hG.out x (by omega) _ hb3.out) ?_
  rintro e w4 ⟨rfl, hb4⟩
  have hb4 := hide (hb3.out.trans (hb4.mono hb3.out.size))
  go_wp2_with fail
  go_ret2
  exact ⟨rfl, hb4.out⟩
theorem fold_mass_no (p : Nat) (kd L x : Int) (l : List Nd) (F : Nat → Prop) (w : World) (h : PoolAt w p kd L l F) (hx : ¬ (1 ≤ x ∧ x < pw L)) :
    Calls Tryz.prog 179 #[.pointer (some ⟨p, 0, none⟩), .int .i64 x] w fun e w' => e = .returned (.tuple #[.int .i64 0, .int .i64 0]) ∧ Below w.heap.size w w' := by
  have hl := hide (pool_l p kd L l F w h)
  have hK := hide (fun W => kids_no (L := L) (x := x) (fun k => hx k.2.2) W)
  clear h hx
  go_enter Tryz.func179, Tryz.ntmps179
  go_wp2_with fail
  refine Calls.mono hl.out ?_
  rintro e w1 ⟨rfl, hb1⟩
  have hb1 := hide hb1
  go_wp2_with fail
  refine Calls.mono (hK.out _) ?_
  rintro e w2 ⟨rfl, rfl⟩
  go_wp2_with fail
  go_ret2
  exact ⟨rfl, hb1.out⟩
theorem fold_ready (p : Nat) (kd L m x : Int) (l : List Nd) (F : Nat → Prop) (w : World) (h : PoolAt w p kd L l F) :
    Calls Tryz.prog 142 #[.pointer (some ⟨p, 0, none⟩), .int .i64 x, .int .i64 m] w fun e w' => e = .returned (.bool (readyB L m l x)) ∧ Below w.heap.size w w' := by
  by_cases hx : 1 ≤ x ∧ x < pw L
  · have hM := hide (fold_mass p kd L x l F w h hx.1 hx.2)
    have hr : readyB L m l x = decide (0 < pairS l x ∧ pairS l x + wt x l ≤ m) := by
      unfold readyB
      rw [Bool.eq_iff_iff, decide_eq_true_eq, decide_eq_true_eq]
      exact ⟨fun k => k.2.2, fun k => ⟨hx.1, hx.2, k⟩⟩
    rw [hr]
    generalize pairS l x = u at *
    generalize u + wt x l = a at *
    clear h hr hx
    by_cases h1 : 0 < u
    · by_cases h2 : a ≤ m
      · rw [decide_eq_true ⟨h1, h2⟩]
        go_enter Tryz.func142, Tryz.ntmps142
        go_wp2_with fail
        refine Calls.mono hM.out ?_
        rintro e w1 ⟨rfl, hb1⟩
        go_wp2_with fail
        go_ret
        exact ⟨rfl, hb1⟩
      · rw [decide_eq_false (fun k => h2 k.2)]
        go_enter Tryz.func142, Tryz.ntmps142
        go_wp2_with fail
        refine Calls.mono hM.out ?_
        rintro e w1 ⟨rfl, hb1⟩
        go_wp2_with fail
        go_ret
        refine ⟨?_, hb1⟩
        show Ending.returned (.bool (decide (a ≤ m))) = _
        rw [decide_eq_false (by omega)]
    · rw [decide_eq_false (fun k => h1 k.1)]
      go_enter Tryz.func142, Tryz.ntmps142
      go_wp2_with fail
      refine Calls.mono hM.out ?_
      rintro e w1 ⟨rfl, hb1⟩
      go_wp2_with fail
      go_ret
      exact ⟨rfl, hb1⟩
  · have hM := hide (fold_mass_no p kd L x l F w h hx)
    have hr : readyB L m l x = false := by
      unfold readyB
      rw [decide_eq_false_iff_not]
      exact fun k => hx ⟨k.1, k.2.1⟩
    rw [hr]
    clear h hr hx
    go_enter Tryz.func142, Tryz.ntmps142
    go_wp2_with fail
    refine Calls.mono hM.out ?_
    rintro e w1 ⟨rfl, hb1⟩
    go_wp2_with fail
    go_ret
    exact ⟨rfl, hb1⟩
set_option maxRecDepth 100000 in
set_option maxHeartbeats 1000000 in
theorem fold_do (p : Nat) (kd L m x : Int) (l : List Nd) (F : Nat → Prop) (w : World) (h : PoolAt w p kd L l F) (hr : readyB L m l x = true) :
    Calls Tryz.prog 143 #[.pointer (some ⟨p, 0, none⟩), .int .i64 x] w fun e w' => (∃ z, e = .returned (.int .i64 z)) ∧ ∃ F', PoolAt w' p kd L (foldAt x l) F' ∧ Turn F w w' ∧ ∀ j, F' j → F j ∨ w.heap.size ≤ j := by
  obtain ⟨hx1, hx2, hpr, -⟩ := ready_iff.1 hr
  obtain ⟨hL1, hL2⟩ := h.uni
  have hp48 := pw_le48 hL2
  have hl := hide (pool_l p kd L l F w h)
  have hK := hide (fun W => kids_yes hL1 hL2 hx1 hx2 W)
  have hlf := len_fold h.canon hx1 hpr
  have hll := h.len
  have s1 := wt_le_sum h.canon (2 * x)
  have hsum := h.sum
  have e1 := sumL_del (2 * x) l
  have e2 := sumL_del (2 * x + 1) (del (2 * x) l)
  have ew : wt (2 * x + 1) (del (2 * x) l) = wt (2 * x + 1) l := by rw [wt_del, if_neg (by omega)]
  have hadd : addS x (pairS l x) (del (2 * x + 1) (del (2 * x) l)) = foldAt x l := by
    unfold addS foldAt
    rw [if_neg (by omega)]
  have n1 := wt_nonneg (2 * x) l h.canon.cntL
  have n2 := wt_nonneg (2 * x + 1) l h.canon.cntL
  have s2 := wt_le_sum h.canon (2 * x + 1)
  have hT1 := hide (fun (W : World) (hW : PoolAt W p kd L l F) => pool_take p kd L (2 * x) l F W hW (by omega))
  have hT2 := hide (fun (W : World) (hW : PoolAt W p kd L (del (2 * x) l) F) => pool_take p kd L (2 * x + 1) (del (2 * x) l) F W hW (by omega))
  rw [ew] at hT2
  have hA := hide (fun (W : World) (hW : PoolAt W p kd L (del (2 * x + 1) (del (2 * x) l)) F) => pool_add p kd L x (pairS l x) (del (2 * x + 1) (del (2 * x) l)) F W hW hx1 (by omega) (by omega) (by rw [e2, e1, ew]; unfold pairS; omega) (by rw [hadd]; omega))
  rw [hadd] at hA
  have hps : pairS l x = wt (2 * x) l + wt (2 * x + 1) l := rfl
  rw [hps] at hA hpr
  have hh := hide h
  clear h hr e1 e2 ew hadd hps
  generalize foldAt x l = l3 at *
  generalize del (2 * x + 1) (del (2 * x) l) = l2 at *
  generalize del (2 * x) l = l1 at *
  generalize wt (2 * x) l = u at *
  generalize wt (2 * x + 1) l = v at *
  go_enter Tryz.func143, Tryz.ntmps143
  go_wp2_with fail
  refine Calls.mono hl.out ?_
  rintro e w1 ⟨rfl, hb1⟩
  have hh1 := hide (hh.out.kept hb1)
  have ht1 := hide (Below.turn hb1 F)
  clear hb1
  go_wp2_with fail
  refine Calls.mono (hK.out _) ?_
  rintro e w2 ⟨rfl, rfl⟩
  go_wp2_with fail
  refine Calls.mono (hT1.out _ hh1.out) ?_
  rintro e w2 ⟨rfl, hq2, hq3⟩
  have hh2 := hide hq2
  have ht2 := hide (ht1.out.trans hq3 fun _ _ k => k)
  clear hq2 hq3
  go_wp2_with fail
  refine Calls.mono (hT2.out _ hh2.out) ?_
  rintro e w3 ⟨rfl, hq2, hq3⟩
  have hh3 := hide hq2
  have ht3 := hide (ht2.out.trans hq3 fun _ _ k => k)
  clear hq2 hq3
  go_wp2_with fail
  refine Calls.mono (hA.out _ hh3.out) ?_
  rintro e w4 ⟨rfl, F', hq1, hq2, hq3⟩
  have hq1 := hide hq1
  have hq2 := hide hq2
  have hq3 := hide hq3
  go_wp2_with fail
  go_ret
  refine ⟨⟨_, rfl⟩, F', hq1.out, ht3.out.trans hq2.out fun _ _ k => k, fun j hj => ?_⟩
  rcases hq3.out j hj with k | k
  · exact .inl k
  · have := ht3.out.size
    right; omega
end Go.Proofs.YteebghoijaaakaaGreat
/- The iterator over a pool's nodes: (*pool.Pool).Each and its closure. By the prover of this repo. -/
namespace Go.Proofs.YteebghoijaaakaaGreat
open Go.RowKit Go.Shelf
open TwigM RollM StoM

attribute [local go_sem] Oper.semAt_some

/-- A node of some universe, of some weight. -/
abbrev NdU := { x : Nd // 1 ≤ x.1 ∧ x.1 ≤ 562949953421312 ∧ 0 ≤ x.2 ∧ x.2 ≤ 72057594037927935 }
/-- A node, as it is yielded. -/
def encN (x : NdU) : Array Value := #[.int .i64 x.1.1, .int .i64 x.1.2]
def asU (l : List Nd) (h : ∀ x ∈ l, 1 ≤ x.1 ∧ x.1 ≤ 562949953421312 ∧ 0 ≤ x.2 ∧ x.2 ≤ 72057594037927935) : List NdU := l.pmap Subtype.mk h
theorem asU_map (l : List Nd) (h) : (asU l h).map (·.1) = l := by unfold asU; rw [List.map_pmap]; simp
theorem PoolAt.allU {w : World} {p : Nat} {kd L : Int} {l : List Nd} {F : Nat → Prop} (h : PoolAt w p kd L l F) : ∀ x ∈ l, 1 ≤ x.1 ∧ x.1 ≤ 562949953421312 ∧ 0 ≤ x.2 ∧ x.2 ≤ 72057594037927935 := fun x hx => by
  have h1 := h.inU x hx
  have h2 := h.canon.cnt x hx
  have h3 := wt_ge hx h.canon.cntL
  have h4 := wt_le_sum h.canon x.1
  have h5 := h.sum
  have h6 := pw_le48 h.uni.2
  omega
/-- Blocks of nodes stay as they are. -/
def KeepN (A B : World) : Prop := A.heap.size ≤ B.heap.size ∧ ∀ (k : Nat) cur fr, A.heap[k]? = some (Obj.cells cur 67 fr) → B.heap[k]? = some (Obj.cells cur 67 fr)
theorem KeepN.refl (A : World) : KeepN A A := ⟨Nat.le_refl _, fun _ _ _ h => h⟩
theorem KeepN.trans {A B C : World} (h : KeepN A B) (k : KeepN B C) : KeepN A C := ⟨Nat.le_trans h.1 k.1, fun j cur fr e => k.2 j cur fr (h.2 j cur fr e)⟩
theorem own_keepN {A B : World} {base n : Nat} {v : Value} {xs : List Value} (h : A.ownsRow base 67 2 v n xs) (k : KeepN A B) : B.ownsRow base 67 2 v n xs := by
  obtain ⟨h1, h2⟩ := h
  refine ⟨h1, ?_⟩
  rcases h2 with h2 | ⟨g, cap, cur, rfl, hb, hg, hr⟩
  · exact .inl h2
  · exact .inr ⟨g, cap, cur, rfl, hb, k.2 g _ _ hg, hr⟩
theorem below_keepN {A B : World} (h : Below A.heap.size A B) : KeepN A B := ⟨h.size, fun k cur fr e => by
  have hk : k < A.heap.size := (Array.getElem?_eq_some_iff.1 e).1
  rw [h.block k hk]; exact e⟩
theorem below_grown {A B : World} (h : Below A.heap.size A B) : A.grownBy B none := ⟨h.os, h.tape, h.output, h.size, fun k hk _ => h.block k hk⟩
theorem nd_at {w : World} {base : Nat} {v : Value} {l : List Nd} (h : w.ownsRow base 67 2 v l.length (ndv l)) {i : Nat} (hi : i < l.length) :
    ∃ g cap, v = .slice (some ⟨g, 0, none⟩) l.length cap ∧ g < w.heap.size ∧ w.cell? ⟨g, i * 2, none⟩ = some (.int .i64 l[i].1) ∧ w.cell? ⟨g, i * 2 + 1, none⟩ = some (.int .i64 l[i].2) := by
  obtain ⟨g, cap, rfl⟩ := own_pos h (by omega)
  have hd : l.getD i (0, 0) = l[i] := by rw [List.getD_eq_getElem?_getD, List.getElem?_eq_getElem hi]; rfl
  refine ⟨g, cap, rfl, (h.lt g rfl).2, ?_, ?_⟩
  · rw [h.cellAt (i * 2) (by omega), ndv_get l (i * 2) (by omega)]
    unfold ndc
    rw [if_pos (by omega), show i * 2 / 2 = i by omega, hd]
  · rw [h.cellAt (i * 2 + 1) (by omega), ndv_get l (i * 2 + 1) (by omega)]
    unfold ndc
    rw [if_neg (by omega), show (i * 2 + 1) / 2 = i by omega, hd]
set_option maxRecDepth 100000 in
set_option maxHeartbeats 1000000 in
theorem pool_each1 (n : Nat) (hn : 1 ≤ n) (lp bx p : Nat) (kd L : Int) (l : List Nd) (F : Nat → Prop) (U : List NdU) (hU : U.map (·.1) = l) (J Jx : List NdU → World → Prop) (W : World) (hJ : AbidesFrom W.heap.size J)
    (hY : ∀ pre x W, J pre W → pre.length < U.length → YieldAt Fence.wide (n - 1) Tryz.prog lp (encN x) W fun e W' =>
      (e = .returned (.bool true) ∧ J (pre ++ [x]) W' ∧ KeepN W W') ∨ (e = .returned (.bool false) ∧ Jx (pre ++ [x]) W'))
    (hp : W.cell? ⟨bx, 0, none⟩ = some (.pointer (some ⟨p, 0, none⟩))) (hP : PoolAt W p kd L l F) (h0 : J [] W) :
    CallsIn Fence.wide n Tryz.prog 184 #[.func (.yield lp) #[] #[], .pointer (some ⟨bx, 0, none⟩)] W fun e W' => (∃ v, e = .returned v) ∧
      ((∃ ys : List NdU, ys = U ∧ J ys W') ∨ (∃ pre : List NdU, pre <+: U ∧ Jx pre W')) := by
  have hS := hide (pool_snap p kd L l F W hP)
  have hll := hP.len
  clear hP
  have hlU : U.length = l.length := by rw [← hU, List.length_map]
  obtain ⟨m, hm⟩ : ∃ m, Hid (l.length = m) := ⟨_, rfl⟩
  rw [hm.out] at hll hS hlU
  replace hlU := hide hlU
  replace hJ := hide hJ
  replace h0 := hide h0
  refine callsIn_of_wp Tryz.func184 rfl trivial ?_ rfl
  simp only [Tryz.ntmps184, List.size_toArray, List.length_cons, List.length_nil, Nat.reduceAdd, Nat.reduceSub, Array.replicate_succ, Array.replicate_zero, List.push_toArray, List.append_toArray, List.nil_append, List.cons_append]
  gi_wp2_with (refine ⟨trivial, ?_⟩; gi_at_call 68; refine (callsIn_wide.2 hS.out).mono ?_; rintro e w1 ⟨v, rfl, hv, hb⟩; have hv2 := hide hv; have hb2 := hide hb; clear hb; obtain ⟨A, c, rfl, hA, hc1, hc2⟩ := own_form hv; clear hv)
  gi_loopw [8] (fun kv wr => ∃ (i : Nat), kv = .int .i64 i ∧ i ≤ m ∧ Hid (wr.ownsRow W.heap.size 67 2 (.slice A m c) m (ndv l)) ∧ Hid (J (U.take i) wr)) (fun kv _ => m - (intOf kv).toNat)
  case atStart => exact ⟨0, rfl, by omega, hv2, by rw [List.take_zero]; exact hJ.out _ _ _ none h0.out (below_grown hb2.out) (fun r e => by cases e)⟩
  case round =>
    obtain ⟨i, rfl, hi, hrow, hJs⟩ := hrel
    by_cases hlt : i < m
    · have hil : i < l.length := by rw [hm.out]; exact hlt
      have hro := hrow.out
      rw [← hm.out] at hro
      obtain ⟨g, cap, e1, hg, cx, cn⟩ := nd_at hro hil
      injection e1 with e1 e2 e3
      subst e1 e3
      have hiU : i < U.length := by rw [hlU.out]; exact hlt
      have hlq : l[i] = (U[i]).1 := by subst hU; rw [List.getElem_map]
      rw [hlq] at cx cn
      have hpre : Hid ((U.take i) ++ [U[i]] = U.take (i + 1)) := (List.take_succ_eq_append_getElem hiU).symm
      obtain ⟨fn, tmps, assign, body, hy, hR⟩ := hY (U.take i) U[i] (wr.alloc (.cells #[.int .i64 (U[i]).1.1, .int .i64 (U[i]).1.2] 67)) (hJ.out _ _ _ none hJs.out (World.grownBy_alloc _ _ none) (fun r e => by cases e)) (by rw [List.length_take]; omega)
      dsimp only [encN] at hy
      have hrow2 := hide (hrow.out.alloc (.cells #[.int .i64 (U[i]).1.1, .int .i64 (U[i]).1.2] 67))
      rw [hpre.out] at hR
      have hpf : Hid (U.take (i + 1) <+: U) := List.take_prefix (i + 1) U
      clear hpre hro hY hlq
      generalize U[i] = q at *
      obtain ⟨⟨x, cnt⟩, hq⟩ := q
      simp only at cx cn hy hR hrow2
      gi_wp2
      refine hR.mono ?_
      rintro e W3 (⟨rfl, hJ3, hk3⟩ | ⟨rfl, hJx3⟩)
      · have hJ3 := hide hJ3
        have hrow3 := hide (own_keepN hrow2.out hk3)
        clear hk3
        gi_wp2
        go_roundw
        case rel => exact ⟨i + 1, by go_num, by omega, hrow3, hJ3⟩
        case measure => simp [intOf]; omega
      · have hJx3 := hide hJx3
        gi_wp2
        refine bodyPost_ret (results_none rfl _ _ _) rfl ?_
        exact ⟨⟨_, rfl⟩, .inr ⟨_, hpf.out, hJx3.out⟩⟩
    · obtain rfl : i = m := by omega
      have hJl : Hid (J U wr) := by have := hJs.out; rwa [← hlU.out, List.take_length] at this
      clear hJs
      gi_wp2
      go_end0
      exact ⟨⟨_, rfl⟩, .inl ⟨U, rfl, hJl.out⟩⟩
/-- p.Each(): the receiver is boxed; the function value captures the box. -/
theorem pool_each (p : Nat) (w : World) : Calls Tryz.prog 149 #[.pointer (some ⟨p, 0, none⟩)] w fun e w' => e = .returned (.func (.func 184) #[] #[.pointer (some ⟨w.heap.size, 0, none⟩)]) ∧ w' = w.alloc (.cells #[.pointer (some ⟨p, 0, none⟩)] 74) := by
  go_enter Tryz.func149, Tryz.ntmps149
  go_wp2_with fail
  go_ret
  exact ⟨rfl, rfl⟩
/-- What p.Each() hands back goes over the pool's nodes, rising; or over some of them, where a round has said 'no more'. -/
theorem pool_stops (n : Nat) (hn : 1 ≤ n) (bx p : Nat) (kd L : Int) (l : List Nd) (F : Nat → Prop) (U : List NdU) (hU : U.map (·.1) = l) (w : World) (hbx : bx < w.heap.size) (hp : w.cell? ⟨bx, 0, none⟩ = some (.pointer (some ⟨p, 0, none⟩))) (hP : PoolAt w p kd L l F) :
    SeqStopsK Fence.wide n Tryz.prog 184 #[.pointer (some ⟨bx, 0, none⟩)] encN KeepN (fun ys => ys = U) (fun pre => pre <+: U) U.length w := fun lp J Jx W hW hJ _ hY h0 =>
  pool_each1 n hn lp bx p kd L l F U hU J Jx W hJ hY ((hW.cell (p := ⟨bx, 0, none⟩) hbx).trans hp) (hP.kept hW) h0
end Go.Proofs.YteebghoijaaakaaGreat
/- The parents of all nodes, in the order of folding. By the prover of this repo. -/
namespace Go.Proofs.YteebghoijaaakaaGreat
open Go.RowKit Go.Shelf
open TwigM RollM StoM

attribute [local go_sem] Oper.semAt_some

theorem popsA_cons (f : Nat) (x : Int) (T : List Int) : popsA (f + 1) (x :: T) = x :: popsA f (popA (x :: T)) := rfl
/-- What an agenda's own blocks are not. -/
theorem AgdAt.foot_kind {w : World} {a m n : Nat} {v : Value} {h : List Int} (s : AgdAt w a m v h n) {k : Nat} (hk : foot a m v k) : k = m ∨ ∃ cur t fr, w.heap[k]? = some (Obj.cells cur t fr) ∧ t ≠ 67 := by
  rcases hk with rfl | rfl | e
  · exact .inr ⟨_, _, _, s.blk, by decide⟩
  · exact .inl rfl
  · rcases s.row.2 with ⟨rfl, _⟩ | ⟨g, cap, cur, rfl, _, hg, _⟩
    · cases e
    · have : g = k := Option.some.inj e
      subst this
      exact .inr ⟨_, _, _, hg, by decide⟩
theorem AgdAt.isMap {w : World} {a m n : Nat} {v : Value} {h : List Int} (s : AgdAt w a m v h n) : ∃ es clock, w.heap[m]? = some (Obj.map es clock) := by
  obtain ⟨D, ⟨es, clock, hb, _⟩, _⟩ := s.set
  exact ⟨es, clock, hb⟩
theorem agd_keepN {w w' : World} {a m n : Nat} {v : Value} {h : List Int} (s : AgdAt w a m v h n) (t : Turn (foot a m v) w w') : KeepN w w' := ⟨t.size, fun k cur fr e => by
  have hk : k < w.heap.size := (Array.getElem?_eq_some_iff.1 e).1
  rw [t.block k hk ?_]
  · exact e
  · intro hf
    rcases s.foot_kind hf with rfl | ⟨cur', ty, fr', e2, ht⟩
    · obtain ⟨es, clock, e2⟩ := s.isMap
      rw [e2] at e; cases e
    · rw [e2] at e
      injection e with e
      injection e with e3 e4 e5
      exact ht e4⟩
theorem agd_keepsFrom {w w' : World} {a m n B : Nat} {v : Value} {h : List Int} (s : AgdAt w a m v h n) (t : Turn (foot a m v) w w') (hm : m < B) : KeepsFrom B w w' := ⟨t.size, fun k o hB e ho => by
  have hk : k < w.heap.size := (Array.getElem?_eq_some_iff.1 e).1
  rw [t.block k hk ?_]
  · exact e
  · intro hf
    rcases s.foot_kind hf with rfl | ⟨cur', ty, fr', e2, ht⟩
    · omega
    · rw [e2] at e
      injection e with e
      subst e
      simp [Obj.isCells] at ho⟩
theorem agd_own {w w' : World} {a m n B : Nat} {v : Value} {h : List Int} {row : Option Nat} (s : AgdAt w a m v h n) (hg : w.grownBy w' row) (hr : ∀ r, row = some r → B ≤ r ∧ ∃ o : Obj, w.heap[r]? = some o ∧ o.isCells = false) (hm : m < B) : AgdAt w' a m v h n := by
  have t : Turn (fun j => row = some j) w w' := ⟨hg.os, hg.tape, hg.output, hg.size, fun k hk hn => hg.block k hk (fun e => hn e.symm)⟩
  refine s.turned t fun j hj e => ?_
  obtain ⟨h1, o, h2, h3⟩ := hr j e
  rcases s.foot_kind hj with rfl | ⟨cur', ty, fr', e2, ht⟩
  · omega
  · rw [h2] at e2
    injection e2 with e2
    subst e2
    simp [Obj.isCells] at h3
theorem keepN_put (W : World) (j : Nat) (o o' : Obj) (hj : W.heap[j]? = some o) (ho : o.isCells = false) : KeepN W (W.putObj j o') := ⟨by simp [World.putObj], fun k cur fr e => by
  have hne : k ≠ j := by
    rintro rfl
    rw [hj] at e
    injection e with e
    subst e
    simp [Obj.isCells] at ho
  have := (grownBy_putObj' W j o').block k (Array.getElem?_eq_some_iff.1 e).1 (fun q => hne (Option.some.inj q))
  rw [this]; exact e⟩
theorem blk_own {w w' : World} {g B : Nat} {t : TypeId} {cs : Array Value} {row : Option Nat} (b : Blk w g t cs) (hg : w.grownBy w' row) (hr : ∀ r, row = some r → B ≤ r ∧ ∃ o : Obj, w.heap[r]? = some o ∧ o.isCells = false) : Blk w' g t cs := by
  refine (hg.block g b.lt ?_).trans b
  intro e
  obtain ⟨_, o, h2, h3⟩ := hr g e.symm
  rw [show w.heap[g]? = some (Obj.cells cs t (0, 0)) from b] at h2
  injection h2 with h2
  subst h2
  simp [Obj.isCells] at h3
theorem below_own {w0 w w' : World} {B n : Nat} {row : Option Nat} (b : Below n w0 w) (hn : n ≤ w.heap.size) (hB : n ≤ B) (hg : w.grownBy w' row) (hr : ∀ r, row = some r → B ≤ r ∧ ∃ o : Obj, w.heap[r]? = some o ∧ o.isCells = false) : Below n w0 w' :=
  b.grown hg hn fun k e => by have := (hr k e).1; omega
theorem own_turnedB {w w' : World} {S : Nat → Prop} {e : TypeId} {base size n : Nat} {v : Value} {xs : List Value} (h : w.ownsRow base e size v n xs) (t : Turn S w w') (hn : ∀ k, v.ownBlock = some k → ¬ S k) : w'.ownsRow base e size v n xs := by
  have hlt := h.lt
  obtain ⟨h1, h2⟩ := h
  refine ⟨h1, ?_⟩
  rcases h2 with h2 | ⟨g, cap, cur, rfl, hb, hg, hr⟩
  · exact .inl h2
  · exact .inr ⟨g, cap, cur, rfl, hb, (t.block g (hlt g rfl).2 (hn g rfl)).trans hg, hr⟩
/-- What is kept while the parents are listed. -/
structure ParAt (w0 wr : World) (base bA D a m N : Nat) (v out : Value) (acc hh : List Int) : Prop where
  row : wr.ownsRow base 3 1 out acc.length (hv acc)
  agd : AgdAt wr a m v hh N
  ft : ∀ j, foot a m v j → base ≤ j ∧ j ≠ bA ∧ j ≠ D
  own : out.ownBlock ≠ some bA ∧ out.ownBlock ≠ some D ∧ ∀ j, foot a m v j → out.ownBlock ≠ some j
  box : Blk wr bA 190 #[.pointer (some ⟨a, 0, none⟩)]
  dfr : wr.heap[D]? = some (.deferred (some []))
  low : Below base w0 wr
theorem ParAt.pop {w0 wr w3 : World} {base bA D a m N : Nat} {v v3 out : Value} {x : Int} {acc T : List Int} (s : ParAt w0 wr base bA D a m N v out acc (x :: T)) (hb : base ≤ wr.heap.size)
    (h1 : AgdAt w3 a m v3 (popA (x :: T)) N) (h2 : Turn (foot a m v) wr w3) (h3 : v3.ownBlock = v.ownBlock) : ParAt w0 w3 base bA D a m N v3 out acc (popA (x :: T)) := by
  have hf : ∀ j, foot a m v3 j ↔ foot a m v j := fun j => by unfold foot; rw [h3]
  have hDl : D < wr.heap.size := (Array.getElem?_eq_some_iff.1 s.dfr).1
  refine ⟨own_turnedB s.row h2 fun k hk hj => s.own.2.2 k hj hk, h1, fun j hj => s.ft j ((hf j).1 hj), ⟨s.own.1, s.own.2.1, fun j hj => s.own.2.2 j ((hf j).1 hj)⟩, s.box.turned h2 fun k => (s.ft _ k).2.1 rfl, (h2.block D hDl fun k => (s.ft _ k).2.2 rfl).trans s.dfr, s.low.trans (h2.below base hb fun j hj k => absurd (s.ft j k).1 (by omega))⟩
theorem ParAt.app {w0 w3 w4 : World} {base bA D a m N : Nat} {v out out4 : Value} {x : Int} {acc hh : List Int} (s : ParAt w0 w3 base bA D a m N v out acc hh) (hb : base ≤ w3.heap.size)
    (how : w4.ownsRow base 3 1 out4 (acc.length + 1) (hv acc ++ [.int .i64 x])) (hgr : w3.grownBy w4 out.ownBlock) (hat : out4.ownBlock = out.ownBlock ∨ out4.ownBlock = some (w3.heap.size + 1)) : ParAt w0 w4 base bA D a m N v out4 (acc ++ [x]) hh := by
  have t := grown_own hgr
  have hDl : D < w3.heap.size := (Array.getElem?_eq_some_iff.1 s.dfr).1
  have hbl := s.box.lt
  have e1 : (acc ++ [x]).length = acc.length + 1 := by simp
  have e2 : hv (acc ++ [x]) = hv acc ++ [.int .i64 x] := by simp [hv]
  have hne : ∀ j, j < w3.heap.size → out.ownBlock ≠ some j → out4.ownBlock ≠ some j := fun j hj hn e => by
    rcases hat with k | k
    · exact hn (k ▸ e)
    · rw [k] at e
      have := Option.some.inj e
      omega
  refine ⟨by rw [e1, e2]; exact how, s.agd.turned t fun j hj => s.own.2.2 j hj, s.ft, ⟨hne _ hbl s.own.1, hne _ hDl s.own.2.1, fun j hj => hne j (s.agd.lt j hj) (s.own.2.2 j hj)⟩, s.box.turned t s.own.1, (t.block D hDl s.own.2.1).trans s.dfr, s.low.trans (t.below base hb fun j hj k => absurd (s.row.lt j k).1 (by omega))⟩
theorem puts_snoc (l : List Int) (x : Int) : putsA [] (l ++ [x]) = putA (putsA [] l) x := by unfold putsA; rw [List.foldl_append]; rfl
set_option maxRecDepth 100000 in
set_option maxHeartbeats 2000000 in
theorem fold_parents (p : Nat) (kd L : Int) (l : List Nd) (F : Nat → Prop) (w : World) (h : PoolAt w p kd L l F) :
    Calls Tryz.prog 139 #[.pointer (some ⟨p, 0, none⟩)] w fun e w' => ∃ v, e = .returned v ∧ w'.ownsRow w.heap.size 3 1 v (parF l).length (hv (parF l)) ∧ Below w.heap.size w w' := by
  have hU := asU_map l h.allU
  have hUl : (asU l h.allU).length = l.length := by have := congrArg List.length hU; rwa [List.length_map] at this
  generalize asU l h.allU = U at *
  have hlen := h.len
  obtain ⟨R, hR0⟩ : ∃ R, Hid (parF l = R) := ⟨_, rfl⟩
  rw [hR0.out]
  have hh := hide h
  clear h
  have hnil : ∀ (x : Option Addr) (W : World), (binOp BinOp.eql 202 (.func (.func 184) #[] #[.pointer x]) .nilFunc).run Tryz.prog W = .ok (.bool false) W := fun _ _ => by kernel_rfl
  have hN := hide (agd_new none 0 [] w (Rd.zero _ _ _ _) (by simp) (by simp))
  refine (callsIn_wide (n := 9)).1 ?_
  refine callsIn_of_wp_marks Tryz.func139 rfl trivial ?_ rfl
  simp only [Tryz.ntmps139, List.size_toArray, List.length_cons, List.length_nil, Nat.reduceAdd, Nat.reduceSub, Array.replicate_succ, Array.replicate_zero, List.push_toArray, List.append_toArray, List.nil_append, List.cons_append]
  refine wpIn_wide.2 ?_
  go_wp2_with fail
  refine Calls.mono hN.out ?_
  rintro e w1 ⟨a, m, v, rfl, hag, hft, hb1⟩
  have hag := hide hag
  have hft := hide hft
  have hb1 := hide hb1
  go_wp2_with fail
  refine Calls.mono (pool_each _ _) ?_
  rintro e w2 ⟨rfl, rfl⟩
  go_wp2_with fail
  have bA : Blk ((w1.alloc (.cells #[.pointer (some ⟨a, 0, none⟩)] 190)).alloc (.cells #[.pointer (some ⟨p, 0, none⟩)] 74)) w1.heap.size 190 #[.pointer (some ⟨a, 0, none⟩)] := (Blk.made w1 _ _).alloc _
  have bE : Blk ((w1.alloc (.cells #[.pointer (some ⟨a, 0, none⟩)] 190)).alloc (.cells #[.pointer (some ⟨p, 0, none⟩)] 74)) (w1.heap.size + 1) 74 #[.pointer (some ⟨p, 0, none⟩)] := Blk.made_at _ _ _ (by simp)
  have hB1 : Below w1.heap.size w1 ((w1.alloc (.cells #[.pointer (some ⟨a, 0, none⟩)] 190)).alloc (.cells #[.pointer (some ⟨p, 0, none⟩)] 74)) := balloc (balloc0 w1 _) _
  have hag2 := hag.out.turned (Below.turn hB1 fun _ => False) fun _ _ k => k
  have hal := hag.out.lt
  have hsz := hb1.out.size
  have hB2 := hb1.out.trans (hB1.mono hsz)
  have hP2 := hh.out.kept hB2
  have hWs : ((w1.alloc (.cells #[.pointer (some ⟨a, 0, none⟩)] 190)).alloc (.cells #[.pointer (some ⟨p, 0, none⟩)] 74)).heap.size = w1.heap.size + 2 := by simp
  generalize ((w1.alloc (.cells #[.pointer (some ⟨a, 0, none⟩)] 190)).alloc (.cells #[.pointer (some ⟨p, 0, none⟩)] 74)) = W2 at *
  have hst := pool_stops (9 - 1) (by omega) (w1.heap.size + 1) p kd L l F U hU W2 (by omega) (bE.cell 0) hP2
  clear hP2 bE hag
  have hma : m < w1.heap.size := hal m (.inr (.inl rfl))
  refine (wpIn_wide (n := 9)).1 ?_
  refine wpIn_rangeFunc_ownG (n := 9) rfl (by omega) (gf := 184) (lb := #[.pointer (some ⟨w1.heap.size + 1, 0, none⟩)]) rfl trivial (enters_of Tryz.func184 (by kernel_rfl) rfl)
    hst KeepN.trans (fun W j o o' _ hj ho _ => keepN_put W j o o' hj ho) (Below.refl _ _) (fun _ => rfl)
    (fun pre W => (∃ v, AgdAt W a m v (putsA [] (pre.map fun q => q.1.1 / 2)) pre.length ∧ ∀ j, foot a m v j → w.heap.size ≤ j ∧ j ≠ w1.heap.size) ∧ Blk W w1.heap.size 190 #[.pointer (some ⟨a, 0, none⟩)] ∧ Below w.heap.size w W)
    (fun _ _ _ => False)
    (fun pre A B row hs hg hr => ⟨⟨hs.1.choose, agd_own hs.1.choose_spec.1 hg hr (by omega), hs.1.choose_spec.2⟩, blk_own hs.2.1 hg hr, below_own hs.2.2 hs.2.2.size (by omega) hg hr⟩)
    (fun _ _ _ _ _ hs _ _ => hs)
    ⟨⟨v, hag2, fun j hj => ⟨hft.out j hj, by have := hal j hj; omega⟩⟩, bA, hB2⟩
    (fun x => { tmps := ((.pointer (some ⟨p, 0, none⟩) : Value) :: undef :: (.slice none 0 0 : Value) :: (.pointer (some ⟨w1.heap.size, 0, none⟩) : Value) :: (.int .i64 x.1.1 : Value) :: undef :: undef :: undef :: (.pointer (some ⟨a, 0, none⟩) : Value) :: (.pointer (some ⟨p, 0, none⟩) : Value) :: (.func (.func 184) #[] #[.pointer (some ⟨w1.heap.size + 1, 0, none⟩)] : Value) :: (.int .i64 x.1.1 : Value) :: (.int .i64 x.1.2 : Value) :: undef :: undef :: undef :: undef :: undef :: undef :: undef :: undef :: undef :: undef :: undef :: undef :: undef :: undef :: undef :: undef :: undef :: []).toArray, defers := [] }) ?assign ?body ?done ?stop
  case assign =>
    intro l x W K hK
    dsimp only [encN]
    gi_wp2
    exact hK
  case body =>
    rintro lp pre x W ⟨⟨v1, hv1, hf1⟩, hbA, hB⟩ hlt
    have cA := hbA.cell 0
    obtain ⟨⟨y, cnt⟩, hx⟩ := x
    have hlp := puts_len0 (pre.map fun q => q.1.1 / 2)
    rw [List.length_map] at hlp
    simp only [] at hx ⊢
    have hPt := hide (agd_put a m pre.length v1 (putsA [] (pre.map fun q => q.1.1 / 2)) (y / 2) W hv1 (by omega) (by omega) (by omega))
    have hsn : Hid (putsA [] ((pre ++ [(⟨(y, cnt), hx⟩ : NdU)]).map fun q => q.1.1 / 2) = putA (putsA [] (pre.map fun q => q.1.1 / 2)) (y / 2)) := by
      show _ = _
      rw [List.map_append]; exact puts_snoc _ _
    rw [← hsn.out] at hPt
    have hln : Hid ((pre ++ [(⟨(y, cnt), hx⟩ : NdU)]).length = pre.length + 1) := by show _ = _; rw [List.length_append]; rfl
    rw [← hln.out] at hPt
    have hlW := hbA.lt
    have hv1 := hide hv1
    have hf1 := hide hf1
    have hbA := hide hbA
    have hB := hide hB
    gi_wp2_with (refine ⟨trivial, ?_⟩; (gi_at_call 144; refine (CallsIn.inRound lp (callsIn_wide.2 hPt.out)).mono ?_; rintro e w5 ⟨⟨b, rfl⟩, v', h1, h2, h3⟩))
    refine ⟨agd_keepsFrom hv1.out h2 (by omega), agd_keepN hv1.out h2, ⟨v', h1, fun j hj => ?_⟩, hbA.out.turned h2 (fun k => (hf1.out _ k).2 rfl), hB.out.trans (h2.below _ hB.out.size fun j hj k => absurd (hf1.out j k).1 (by omega))⟩
    have hBs := hB.out.size
    rcases h3 j hj with k | k
    · exact hf1.out j k
    · omega
  case done =>
    rintro D ys W hD hys ⟨⟨v1, hv1, hf1⟩, hbA, hB⟩ hK
    subst hys
    have hL0 : (ys.map fun q => q.1.1 / 2) = l.map fun q => q.1 / 2 := by rw [← hU, List.map_map]; rfl
    rw [hL0] at hv1
    have hR : Hid (popsA (putsA [] (l.map fun q => q.1 / 2)).length (putsA [] (l.map fun q => q.1 / 2)) = R) := hR0.out
    have hlp := puts_len0 (l.map fun q => q.1 / 2)
    rw [List.length_map] at hlp
    obtain ⟨H0, hH0⟩ : ∃ H0, putsA [] (l.map fun q => q.1 / 2) = H0 := ⟨_, rfl⟩
    rw [hH0] at hv1 hlp hR
    obtain ⟨N0, hN0⟩ : ∃ N0, ys.length = N0 := ⟨_, rfl⟩
    rw [hN0] at hv1
    have cA := hbA.cell 0
    have hDW : D < W.heap.size := (Array.getElem?_eq_some_iff.1 hK).1
    have hfD : ∀ j, foot a m v1 j → j ≠ D := by
      rintro j hj rfl
      rcases hv1.foot_kind hj with rfl | ⟨cur, t, fr, e2, _⟩
      · omega
      · rw [hK] at e2; cases e2
    have hbAH := hide hbA
    have hBs := hB.size
    have hBH := hide hB
    have hv1H := hide hv1
    have hf1H := hide hf1
    have hfDH := hide hfD
    have hKH := hide hK
    have hAlt := hbA.lt
    clear hst hag2 hB1 bA hB2 hU hL0 hH0 hN0 hv1 hf1 hbA hB hfD hK
    go_wp2_with fail
    go_loopw [5] (fun out wr => ∃ (acc hh : List Int) (f : Nat) (v1 : Value), Hid (ParAt w wr w.heap.size w1.heap.size D a m N0 v1 out acc hh) ∧ acc.length + f ≤ 1000000 ∧ Hid (hh.length ≤ f) ∧ Hid (acc ++ popsA f hh = R)) (fun out _ => 1000000 - (match out with | .slice _ n _ => n | _ => 0))
    case atStart =>
      exact ⟨[], H0, H0.length, v1, ⟨World.ownsRow_nil _ _ _ _, hv1H.out, fun j hj => ⟨(hf1H.out j hj).1, (hf1H.out j hj).2, hfDH.out j hj⟩, ⟨by simp [Value.ownBlock], by simp [Value.ownBlock], fun j _ => by simp [Value.ownBlock]⟩, hbAH.out, hKH.out, hBH.out⟩, by simp; omega, Nat.le_refl _, hR⟩
    case round =>
      obtain ⟨acc, hh, f, v2, hpa, haf, hlf, hpop⟩ := hrel
      clear hbAH hBH hv1H hf1H hfDH hKH hR cA
      have cA := hpa.out.box.cell 0
      obtain ⟨A, c, rfl, hA1, hc1, hc2⟩ := own_form hpa.out.row
      have hL := hide (agd_len a m N0 v2 hh wr hpa.out.agd)
      have hbw := hpa.out.low.size
      cases hh with
      | nil =>
        have hacc : Hid (acc = R) := by
          have := hpop.out
          show _ = _
          rw [← this]
          cases f <;> simp [popsA]
        clear hpop hlf
        go_wp2_with fail
        refine Calls.mono hL.out ?_
        rintro e w3 ⟨rfl, rfl⟩
        go_wp2_with fail
        refine ⟨by simp, .inl ⟨_, _, rfl, run_takeDeferred hpa.out.dfr, ?_⟩⟩
        refine ⟨_, results_tmp Tryz.results139 _ _ _, _, rfl, ?_⟩
        have hDw : w.heap.size ≤ D := by omega
        have t := grown_turn (grownBy_putObj' wr D (.deferred none))
        have hrw := own_turnedB hpa.out.row t fun k hk e => hpa.out.own.2.1 (e ▸ hk)
        have hlow := hpa.out.low.trans (t.below w.heap.size hbw fun j hj e => by omega)
        rw [hacc.out] at hrw
        refine ⟨?_, hlow⟩
        have : (Value.slice A acc.length c) = (Value.slice A R.length c) := by rw [hacc.out]
        rw [← hacc.out] at hrw ⊢
        exact hrw
      | cons x T =>
        have hP := hide (agd_pop a m N0 v2 x T wr hpa.out.agd)
        obtain ⟨f0, hf0⟩ : ∃ f0, f = f0 + 1 := ⟨f - 1, by have := hlf.out; rw [List.length_cons] at this; omega⟩
        subst hf0
        have hnext : Hid ((acc ++ [x]) ++ popsA f0 (popA (x :: T)) = R) := by
          have := hpop.out
          rw [popsA_cons] at this
          show _ = _
          rw [← this, List.append_assoc]; rfl
        have hpl : Hid ((popA (x :: T)).length ≤ f0) := by
          have h1 := (popA_perm x T).length_eq
          have h2 := hlf.out
          rw [List.length_cons] at h2
          show _ ≤ _
          omega
        have hlp : (0 : Int) < (((x :: T).length : Nat) : Int) := by simp only [List.length_cons]; omega
        clear hpop hlf
        obtain ⟨n2, hn2⟩ : ∃ n2, (x :: T).length = n2 := ⟨_, rfl⟩
        rw [hn2] at hL hlp
        clear hn2
        obtain ⟨na, hna⟩ : ∃ na, Hid (acc.length = na) := ⟨_, rfl⟩
        rw [hna.out] at haf hA1 hc1
        go_wp2_with fail
        refine Calls.mono hL.out ?_
        rintro e w3 ⟨rfl, rfl⟩
        go_wp2_with fail
        refine Calls.mono hP.out ?_
        rintro e w3 ⟨rfl, v3, h1, h2, h3⟩
        have hs3 := h2.size
        have hb3 : w.heap.size ≤ w3.heap.size := by omega
        have hpa3 := hide (hpa.out.pop hbw h1 h2 h3)
        have hrow3 := hide hpa3.out.row
        clear h1 h2 h3
        go_wp2_with (at_builtin; refine wpList_app1 elIntA rfl (.tmp 25) (.tmp 27) rfl w.heap.size _ _ _ [.int .i64 x] 3 rfl hrow3.out rfl rfl (one1 rfl) (by rw [hna.out]; omega) hb3 ?_; intro v4 w4 how4 hb4 hgr4 hat4; have hpa4 := hide (hpa3.out.app hb3 how4 hgr4 hat4); clear how4 hb4 hgr4 hat4)
        go_roundw
        case rel => exact ⟨acc ++ [x], popA (x :: T), f0, v3, hpa4, by rw [List.length_append, hna.out]; simp; omega, hpl, hnext⟩
        case measure =>
          obtain ⟨A4, c4, rfl, -, -, -⟩ := own_form hpa4.out.row
          simp [hna.out]
          omega
  case stop =>
    rintro D c pre W _ _ h _
    exact h.elim
end Go.Proofs.YteebghoijaaakaaGreat
/- A store, folded as far as it may be. By the prover of this repo. -/
namespace Go.Proofs.YteebghoijaaakaaGreat
open Go.RowKit
open TwigM RollM StoM

/-- What is kept while a store is folded. -/
structure RunAt (w0 wr : World) (p a m nb N : Nat) (v : Value) (kd L : Int) (lc : List Nd) (hc : List Int) (F0 F : Nat → Prop) (z : Int) : Prop where
  pool : PoolAt wr p kd L lc F
  agd : AgdAt wr a m v hc N
  fresh : ∀ j, foot a m v j → w0.heap.size ≤ j
  old : ∀ j, F j → F0 j ∨ w0.heap.size ≤ j
  apart : ∀ j, F j → ¬ foot a m v j
  low : Turn (fun j => F0 j ∨ j = nb) w0 wr
  pn : p < w0.heap.size
  nbl : nb < w0.heap.size
  nbF : ¬ F nb
  nbp : nb ≠ p
  box : Blk wr nb 3 #[.int .i64 z]
section
variable {w0 wr w3 : World} {p a m nb N N' : Nat} {v v3 : Value} {kd L : Int} {lc l' : List Nd} {hc h' : List Int} {F0 F F' : Nat → Prop} {z : Int}
theorem RunAt.agenda (s : RunAt w0 wr p a m nb N v kd L lc hc F0 F z) (h1 : AgdAt w3 a m v3 h' N') (t : Turn (foot a m v) wr w3) (hf : ∀ j, foot a m v3 j → foot a m v j ∨ wr.heap.size ≤ j) : RunAt w0 w3 p a m nb N' v3 kd L lc h' F0 F z := by
  have hs := s.low.size
  have hp : ¬ foot a m v p := fun k => by have := s.fresh p k; have := s.pn; omega
  have hnb : ¬ foot a m v nb := fun k => by have := s.fresh nb k; have := s.nbl; omega
  have hFl := s.pool.lt.2
  refine ⟨s.pool.turned t hp s.apart, h1, fun j hj => ?_, s.old, fun j hj k => ?_, s.low.trans t fun j hj k => absurd (s.fresh j k) (by omega), s.pn, s.nbl, s.nbF, s.nbp, s.box.turned t hnb⟩
  · rcases hf j hj with k | k
    · exact s.fresh j k
    · omega
  · rcases hf j k with k | k
    · exact s.apart j hj k
    · have := hFl j hj; omega
theorem RunAt.fold (s : RunAt w0 wr p a m nb N v kd L lc hc F0 F z) (h1 : PoolAt w3 p kd L l' F') (t : Turn F wr w3) (hf : ∀ j, F' j → F j ∨ wr.heap.size ≤ j) : RunAt w0 w3 p a m nb N v kd L l' hc F0 F' z := by
  have hs := s.low.size
  have hal := s.agd.lt
  refine ⟨h1, s.agd.turned t fun j hj k => s.apart j k hj, s.fresh, fun j hj => ?_, fun j hj k => ?_, s.low.trans t fun j hj k => ?_, s.pn, s.nbl, fun k => ?_, s.nbp, s.box.turned t s.nbF⟩
  · rcases hf j hj with k | k
    · exact s.old j k
    · right; omega
  · rcases hf j hj with q | q
    · exact s.apart j q k
    · have := hal j k; omega
  · rcases s.old j k with q | q
    · exact .inl q
    · omega
  · rcases hf nb k with q | q
    · exact s.nbF q
    · have := s.nbl; omega
theorem RunAt.same (s : RunAt w0 wr p a m nb N v kd L lc hc F0 F z) (hb : Below wr.heap.size wr w3) : RunAt w0 w3 p a m nb N v kd L lc hc F0 F z :=
  ⟨s.pool.kept hb, s.agd.turned (Below.turn hb fun _ => False) fun _ _ k => k, s.fresh, s.old, s.apart, s.low.trans (Below.turn hb _) fun _ _ k => k, s.pn, s.nbl, s.nbF, s.nbp, s.box.kept hb⟩
theorem RunAt.tick (s : RunAt w0 wr p a m nb N v kd L lc hc F0 F z) (z' : Int) : RunAt w0 (wr.setCell ⟨nb, 0, none⟩ (.int .i64 z')) p a m nb N v kd L lc hc F0 F z' := by
  have t := Turn.setCell wr (fun j => j = nb) ⟨nb, 0, none⟩ (.int .i64 z') rfl
  have hnb : ¬ foot a m v nb := fun k => by have := s.fresh nb k; have := s.nbl; omega
  have hbx := s.box.set 0 (.int .i64 z')
  exact ⟨s.pool.turned t (fun k => s.nbp k.symm) fun j hj k => s.nbF (k ▸ hj), s.agd.turned t fun j hj k => hnb (k ▸ hj), s.fresh, s.old, s.apart, s.low.trans t fun j _ k => .inr k, s.pn, s.nbl, s.nbF, s.nbp, by simpa using hbx⟩
end
theorem told_c (nb : Nat) (x z : Int) (w : World) (hb : Blk w nb 3 #[.int .i64 z]) (hz : -9223372036854775808 ≤ z + 1) (hz2 : z + 1 ≤ 9223372036854775807) :
    Calls Tryz.prog 94 #[.int .i64 x, .pointer (some ⟨nb, 0, none⟩)] w fun e w' => (∃ v, e = .returned v) ∧ w' = w.setCell ⟨nb, 0, none⟩ (.int .i64 (z + 1)) := by
  have c0 := hb.cell 0
  have f0 := hb.free 0
  clear hb
  go_enter Tryz.func94, Tryz.ntmps94
  go_wp2_with fail
  go_end0
  exact ⟨⟨_, rfl⟩, rfl⟩
theorem runF_nil (L m : Int) (f : Nat) (l : List Nd) : runF L m f l [] = (l, 0) := by cases f <;> rfl
set_option maxRecDepth 100000 in
set_option maxHeartbeats 4000000 in
theorem press_run (p nb : Nat) (kd L K : Int) (l : List Nd) (F : Nat → Prop) (w : World) (h : PoolAt w p kd L l F) (hK : 1 ≤ K) (hK2 : K ≤ 1048576) (hms : meas l (startF l) ≤ 10000000) (hb : Blk w nb 3 #[.int .i64 0]) (hnF : ¬ F nb) (hnp : nb ≠ p) :
    Calls Tryz.prog 93 #[.pointer (some ⟨p, 0, none⟩), .int .i64 K, .func (.func 94) #[] #[.pointer (some ⟨nb, 0, none⟩)]] w fun e w' => (∃ v, e = .returned v) ∧ ∃ F', PoolAt w' p kd L (pressF L K l).1 F' ∧ Blk w' nb 3 #[.int .i64 ((pressF L K l).2 : Int)] ∧ Turn (fun j => F j ∨ j = nb) w w' ∧ ∀ j, F' j → F j ∨ w.heap.size ≤ j := by
  obtain ⟨hL1, hL2⟩ := h.uni
  have hp48 := pw_le48 hL2
  have hT := hide (pool_total p kd L l F w h)
  have hC := hide (fun W => cap_c (sumL l) K W (sumL_nonneg l h.canon.cntL) hK h.sum (by omega))
  have hP := hide (fun W (hW : Below w.heap.size w W) => fold_parents p kd L l F W (h.kept hW))
  have hll := h.len
  have hpl := parF_len l
  have hpb : ∀ x ∈ parF l, x ≤ 1152921504606846976 := fun x hx => by
    obtain ⟨⟨q, hq, e⟩, _⟩ := (parF_mem l x).1 hx
    have := (h.inU q hq).2
    omega
  have hstl := startF_len l
  have hh := hide h
  have hF : pressF L K l = runF L (sumL l / K) (meas l (startF l)) l (startF l) := rfl
  obtain ⟨RC, hRC⟩ : ∃ RC, Hid (pressF L K l = RC) := ⟨_, rfl⟩
  rw [hRC.out]
  rw [hRC.out] at hF
  replace hF := hide hF
  have hbl := hb.lt
  have hpw := h.lt.1
  have hFl := h.lt.2
  have hbH := hide hb
  clear h hb
  generalize hmm : sumL l / K = most at *
  go_enter Tryz.func93, Tryz.ntmps93
  go_wp2_with fail
  refine Calls.mono hT.out ?_
  rintro e w1 ⟨rfl, hb1⟩
  have hb1 := hide hb1
  go_wp2_with fail
  refine Calls.mono (hC.out _) ?_
  rintro e w2 ⟨rfl, rfl⟩
  go_wp2_with fail
  refine Calls.mono (hP.out _ hb1.out) ?_
  rintro e w2 ⟨v, rfl, hv, hb2⟩
  obtain ⟨A, c, rfl, hA, hc1, hc2⟩ := own_form hv
  have hbs1 := hb1.out.size
  have hb2 := hide (hb1.out.trans (hb2.mono hbs1))
  have hr : Rd w2 A (parF l).length 1 (inc (parF l)) := (own_rd hv).congr fun i hi => by
    unfold inc
    rw [List.getD_eq_getElem?_getD, hv_get _ _ (by omega)]; rfl
  have hA := hide (agd_new A c (parF l) w2 hr (by omega) hpb)
  have hhP := hide (fun W (hW : Below w.heap.size w W) => hh.out.kept hW)
  clear hv hr hP hT hpb hpl
  go_wp2_with fail
  refine Calls.mono hA.out ?_
  rintro e w3 ⟨a, m, v, rfl, hag, hft, hb3⟩
  have hbs2 := hb2.out.size
  have hb3 := hb2.out.trans (hb3.mono hbs2)
  have hst : Hid (RunAt w w3 p a m nb (parF l).length v kd L l (startF l) F F 0) :=
    ⟨hh.out.kept hb3, hag, fun j hj => by have := hft j hj; omega, fun j hj => .inl hj, fun j hj k => by have := hft j k; have := hFl j hj; omega, Below.turn hb3 _, hpw, hbl, hnF, hnp, hbH.out.kept hb3⟩
  have hres : Hid (runF L most (meas l (startF l)) l (startF l) = RC) := hF.out.symm
  have hN0 : (parF l).length ≤ 1000000 := by have := parF_len l; omega
  generalize hS0 : startF l = S0 at *
  generalize hM0 : meas l S0 = M0 at *
  obtain ⟨N0, hN00⟩ : ∃ N0, (parF l).length = N0 := ⟨_, rfl⟩
  rw [hN00] at hst hN0
  have hm1 : Hid (meas l S0 ≤ M0) := Nat.le_of_eq hM0
  clear hag hft hb3 hA hhP hF hRC hh hb1 hb2 hC hbH hmm hN00 hS0 hM0
  go_wp2_with fail
  go_loopg [17] M0 (fun f _ wr => ∃ (lc : List Nd) (hc : List Int) (F1 : Nat → Prop) (N : Nat) (v : Value) (z : Nat), Hid (RunAt w wr p a m nb N v kd L lc hc F F1 (z : Int)) ∧ Hid ((runF L most f lc hc).1 = RC.1 ∧ z + (runF L most f lc hc).2 = RC.2) ∧ Hid (meas lc hc ≤ f) ∧ N + 3 * f ≤ 100000000 ∧ z + f ≤ 10000000)
  case atStart => exact ⟨l, S0, F, N0, v, 0, hst, by show _ ∧ _; rw [hres.out]; exact ⟨rfl, by omega⟩, hm1, by omega, by omega⟩
  case round =>
    obtain ⟨lc, hc, F1, N, v1, z, hra, hre, hme, hN1, hz⟩ := hrel
    clear hst hres
    have hL := hide (agd_len a m N v1 hc wr hra.out.agd)
    cases hc with
    | nil =>
      have hr2 := hre.out
      rw [runF_nil] at hr2
      have hr2 := hide hr2
      go_wp2_with fail
      refine Calls.mono hL.out ?_
      rintro e w4 ⟨rfl, rfl⟩
      go_wp2_with fail
      go_end0
      have hR := hra.out
      obtain ⟨e1, e2⟩ := hr2.out
      simp only [Nat.add_zero] at e2
      rw [e1] at hR
      subst e2
      exact ⟨⟨_, rfl⟩, F1, hR.pool, hR.box, hR.low, hR.old⟩
    | cons x T =>
      have hP := hide (agd_pop a m N v1 x T wr hra.out.agd)
      have hpos := hra.out.agd.pos x (by simp)
      obtain ⟨f0, hf0⟩ : ∃ f0, gk = f0 + 1 := ⟨gk - 1, by have := hme.out; unfold meas at this; rw [List.length_cons] at this; omega⟩
      subst hf0
      have hcan := hra.out.pool.canon
      have hinu := hra.out.pool.inU
      have hpl1 : (popA (x :: T)).length + 1 = (x :: T).length := by rw [(popA_perm x T).length_eq]; rfl
      have hR := hide (fun W (k : PoolAt W p kd L lc F1) => fold_ready p kd L most x lc F1 W k)
      have hlp : (0 : Int) < (((x :: T).length : Nat) : Int) := by simp only [List.length_cons]; omega
      have hmp := meas_pop (l := lc) (x := x) (T := T)
      have hme1 := hme.out
      have hlm : ∀ (q : List Nd) (g : List Int), g.length ≤ meas q g := fun q g => by unfold meas; omega
      by_cases hrd : readyB L most lc x = true
      · rw [hrd] at hR
        have hx := ready_iff.1 hrd
        have hre1 : Hid ((runF L most f0 (foldAt x lc) (nextA (popA (x :: T)) x)).1 = RC.1 ∧ z + 1 + (runF L most f0 (foldAt x lc) (nextA (popA (x :: T)) x)).2 = RC.2) := by
          have := hre.out
          rw [runF, if_pos hrd] at this
          exact ⟨this.1, by omega⟩
        have hmf := meas_fold hL1 hcan hinu hrd (T := T)
        have hme2 : Hid (meas (foldAt x lc) (nextA (popA (x :: T)) x) ≤ f0) := by show _ ≤ _; omega
        have hD := hide (fun W (k : PoolAt W p kd L lc F1) => fold_do p kd L most x lc F1 W k hrd)
        have hl1 := hlm lc (popA (x :: T))
        have hl2 := putA_len (popA (x :: T)) (2 * x)
        have hl3 := putA_len (putA (popA (x :: T)) (2 * x)) (2 * x + 1)
        have hA1 := hide (fun W v (k : AgdAt W a m v (popA (x :: T)) N) => agd_put a m N v (popA (x :: T)) (2 * x) W k (by omega) (by omega) (by omega))
        have hA2 := hide (fun W v (k : AgdAt W a m v (putA (popA (x :: T)) (2 * x)) (N + 1)) => agd_put a m (N + 1) v (putA (popA (x :: T)) (2 * x)) (2 * x + 1) W k (by omega) (by omega) (by omega))
        have hA3 := hide (fun W v (k : AgdAt W a m v (putA (putA (popA (x :: T)) (2 * x)) (2 * x + 1)) (N + 1 + 1)) => agd_put a m (N + 1 + 1) v (putA (putA (popA (x :: T)) (2 * x)) (2 * x + 1)) (x / 2) W k (by omega) (by omega) (by omega))
        have hnx : nextA (popA (x :: T)) x = putA (putA (putA (popA (x :: T)) (2 * x)) (2 * x + 1)) (x / 2) := rfl
        rw [hnx] at hre1 hme2
        have hTd := hide (fun W (k : Blk W nb 3 #[.int .i64 (z : Int)]) => told_c nb x (z : Int) W k (by omega) (by omega))
        obtain ⟨n2, hn2⟩ : ∃ n2, (x :: T).length = n2 := ⟨_, rfl⟩
        rw [hn2] at hL hlp
        clear hre hrd hcan hinu hme hme1 hmf hmp hl1 hl2 hl3 hlm hnx hn2 hpl1
        generalize putA (putA (putA (popA (x :: T)) (2 * x)) (2 * x + 1)) (x / 2) = G3 at *
        generalize putA (putA (popA (x :: T)) (2 * x)) (2 * x + 1) = G2 at *
        generalize putA (popA (x :: T)) (2 * x) = G1 at *
        generalize popA (x :: T) = G0 at *
        generalize foldAt x lc = lf at *
        go_wp2_with fail
        refine Calls.mono hL.out ?_
        rintro e w4 ⟨rfl, rfl⟩
        go_wp2_with fail
        refine Calls.mono hP.out ?_
        rintro e w4 ⟨rfl, v4, h1, h2, h3⟩
        have hr4 := hide (hra.out.agenda h1 h2 fun j hj => .inl (by unfold foot at hj ⊢; rw [h3] at hj; exact hj))
        clear h1 h2 h3
        go_wp2_with fail
        refine Calls.mono (hR.out _ hr4.out.pool) ?_
        rintro e w5 ⟨rfl, hb5⟩
        have hr5 := hide (hr4.out.same hb5)
        clear hb5
        go_wp2_with fail
        refine Calls.mono (hD.out _ hr5.out.pool) ?_
        rintro e w6 ⟨⟨z6, rfl⟩, F6, h1, h2, h3⟩
        have hr6 := hide (hr5.out.fold h1 h2 h3)
        clear h1 h2 h3
        go_wp2_with (go_at_call 94; refine (hTd.out _ hr6.out.box).mono ?_; rintro e w7 ⟨⟨v7, rfl⟩, rfl⟩)
        have hr7 := hide (hr6.out.tick ((z : Int) + 1))
        refine Calls.mono (hA1.out _ _ hr7.out.agd) ?_
        rintro e w8 ⟨⟨b8, rfl⟩, v8, h1, h2, h3⟩
        have hr8 := hide (hr7.out.agenda h1 h2 h3)
        clear h1 h2 h3
        go_wp2_with fail
        refine Calls.mono (hA2.out _ _ hr8.out.agd) ?_
        rintro e w9 ⟨⟨b9, rfl⟩, v9, h1, h2, h3⟩
        have hr9 := hide (hr8.out.agenda h1 h2 h3)
        clear h1 h2 h3
        go_wp2_with fail
        refine Calls.mono (hA3.out _ _ hr9.out.agd) ?_
        rintro e w10 ⟨⟨b10, rfl⟩, v10, h1, h2, h3⟩
        have hr10 := hide (hr9.out.agenda h1 h2 h3)
        clear h1 h2 h3
        go_wp2_with fail
        go_roundg f0
        case measure => omega
        case rel => exact ⟨lf, G3, F6, N + 1 + 1 + 1, v10, z + 1, hr10, hre1, hme2, by omega, by omega⟩
      · have hrd2 : readyB L most lc x = false := by simpa using hrd
        rw [hrd2] at hR
        have hre1 : Hid ((runF L most f0 lc (popA (x :: T))).1 = RC.1 ∧ z + (runF L most f0 lc (popA (x :: T))).2 = RC.2) := by
          have := hre.out
          rw [runF, if_neg hrd] at this
          exact this
        have hme2 : Hid (meas lc (popA (x :: T)) ≤ f0) := by show _ ≤ _; omega
        obtain ⟨n2, hn2⟩ : ∃ n2, (x :: T).length = n2 := ⟨_, rfl⟩
        rw [hn2] at hL hlp
        clear hre hrd hrd2 hcan hinu hme hme1 hmp hlm hn2 hpl1
        generalize popA (x :: T) = G0 at *
        go_wp2_with fail
        refine Calls.mono hL.out ?_
        rintro e w4 ⟨rfl, rfl⟩
        go_wp2_with fail
        refine Calls.mono hP.out ?_
        rintro e w4 ⟨rfl, v4, h1, h2, h3⟩
        have hr4 := hide (hra.out.agenda h1 h2 fun j hj => .inl (by unfold foot at hj ⊢; rw [h3] at hj; exact hj))
        clear h1 h2 h3
        go_wp2_with fail
        refine Calls.mono (hR.out _ hr4.out.pool) ?_
        rintro e w5 ⟨rfl, hb5⟩
        have hr5 := hide (hr4.out.same hb5)
        clear hb5
        go_wp2_with fail
        go_roundg f0
        case measure => omega
        case rel => exact ⟨lc, G0, F1, N, v4, z, hr5, hre1, hme2, by omega, by omega⟩
end Go.Proofs.YteebghoijaaakaaGreat
/- Run: a store, folded as far as it may be: how often. By the prover of this repo. -/
namespace Go.Proofs.YteebghoijaaakaaGreat
open Go.RowKit
open TwigM RollM StoM

theorem may_c (K : Int) (w : World) : Calls Tryz.prog 53 #[.int .i64 K] w fun e w' => e = .returned (.bool (decide (1 ≤ K ∧ K ≤ 1048576))) ∧ w = w' := by
  by_cases h1 : 1 ≤ K
  · by_cases h2 : K ≤ 1048576
    · rw [decide_eq_true ⟨h1, h2⟩]
      go_enter Tryz.func53, Tryz.ntmps53
      go_wp2_with fail
      go_ret
      exact ⟨rfl, rfl⟩
    · rw [decide_eq_false (fun k => h2 k.2)]
      go_enter Tryz.func53, Tryz.ntmps53
      go_wp2_with fail
      go_ret
      exact ⟨rfl, rfl⟩
  · rw [decide_eq_false (fun k => h1 k.1)]
    go_enter Tryz.func53, Tryz.ntmps53
    go_wp2_with fail
    go_ret
    exact ⟨rfl, rfl⟩
theorem wrong_c (p : Nat) (K : Int) (w : World) (h1 : 1 ≤ K) (h2 : K ≤ 1048576) : Calls Tryz.prog 92 #[.pointer (some ⟨p, 0, none⟩), .int .i64 K] w fun e w' => e = .returned (.int .i64 0) ∧ w = w' := by
  have hM := hide (fun W => may_c K W)
  rw [decide_eq_true ⟨h1, h2⟩] at hM
  go_enter Tryz.func92, Tryz.ntmps92
  go_wp2_with fail
  refine Calls.mono (hM.out _) ?_
  rintro e w1 ⟨rfl, rfl⟩
  go_wp2_with fail
  go_ret
  exact ⟨rfl, rfl⟩
theorem press_Run (p : Nat) (kd L K : Int) (l : List Nd) (F : Nat → Prop) (w : World) (h : PoolAt w p kd L l F) (hK : 1 ≤ K) (hK2 : K ≤ 1048576) (hms : meas l (startF l) ≤ 10000000) :
    Calls Tryz.prog 51 #[.pointer (some ⟨p, 0, none⟩), .int .i64 K] w fun e w' => e = .returned (.tuple #[.int .i64 ((pressF L K l).2 : Int), .int .i64 0]) ∧ ∃ F', PoolAt w' p kd L (pressF L K l).1 F' ∧ Turn F w w' ∧ ∀ j, F' j → F j ∨ w.heap.size ≤ j := by
  have hW := hide (fun W => wrong_c p K W hK hK2)
  have hpl := h.lt
  have hR := hide (press_run p w.heap.size kd L K l F (w.alloc (.cells #[.int .i64 0] 3)) (h.kept (balloc0 w _)) hK hK2 hms (Blk.made w _ _) (fun k => by have := hpl.2 _ k; omega) (by omega))
  clear h hms
  generalize pressF L K l = RC at *
  obtain ⟨l', c⟩ := RC
  simp only at hR ⊢
  go_enter Tryz.func51, Tryz.ntmps51
  go_wp2_with fail
  refine Calls.mono (hW.out _) ?_
  rintro e w1 ⟨rfl, rfl⟩
  go_wp2_with fail
  refine Calls.mono hR.out ?_
  rintro e w1 ⟨⟨v1, rfl⟩, F', h1, h2, h3, h4⟩
  have c0 := h2.cell 0
  have h1 := hide h1
  have h3 := hide h3
  have h4 := hide h4
  clear h2
  go_wp2_with fail
  go_ret2
  refine ⟨rfl, F', h1.out, ?_, fun j hj => ?_⟩
  · refine (Turn.alloc w F _).trans h3.out fun j hj k => ?_
    rcases k with k | k
    · exact k
    · omega
  · rcases h4.out j hj with k | k
    · exact .inl k
    · right
      simp at k
      omega
end Go.Proofs.YteebghoijaaakaaGreat
/- Light: is no node but leaves too heavy? By the prover of this repo. -/
namespace Go.Proofs.YteebghoijaaakaaGreat
open Go.RowKit Go.Shelf
open TwigM RollM StoM

attribute [local go_sem] Oper.semAt_some

def heavyB (L m : Int) (q : Nd) : Bool := decide (q.1 < pw L) && decide (m < q.2)
def lightB (L m : Int) (l : List Nd) : Bool := l.all fun q => !heavyB L m q
theorem lightB_iff {L m : Int} {l : List Nd} (hc : Canon l) (hu : InU L l) (hm : 0 ≤ m) : lightB L m l = true ↔ LightW L m l := by
  unfold lightB heavyB LightW
  rw [List.all_eq_true]
  constructor
  · intro h id h1 h2
    by_cases hz : wt id l = 0
    · omega
    · obtain ⟨p, hp, e⟩ := mem_wt hz
      have h3 := h p hp
      have h4 := wt_mem hc hp
      simp at h3
      rw [e] at h3 h4
      rw [h4]
      omega
  · intro h p hp
    have h3 := h p.1 (hu p hp).1
    have h4 := wt_mem hc hp
    simp
    by_cases h5 : p.1 < pw L
    · right
      rw [← h4]
      exact h3 h5
    · left; omega
theorem below_keepsFrom {A B : World} (h : Below A.heap.size A B) (n : Nat) : KeepsFrom n A B := ⟨h.size, fun k o _ hk _ => (h.block k (Array.getElem?_eq_some_iff.1 hk).1).trans hk⟩
theorem light_pre {L m : Int} {a b : List NdU} (h : a <+: b) (hf : lightB L m (a.map (·.1)) = false) : lightB L m (b.map (·.1)) = false := by
  obtain ⟨t, rfl⟩ := h
  unfold lightB at hf ⊢
  rw [List.map_append, List.all_append, hf]
  rfl
set_option maxRecDepth 100000 in
set_option maxHeartbeats 2000000 in
theorem press_light (p : Nat) (kd L K : Int) (l : List Nd) (F : Nat → Prop) (w : World) (h : PoolAt w p kd L l F) (hK : 1 ≤ K) (hK2 : K ≤ 1048576) :
    Calls Tryz.prog 101 #[.pointer (some ⟨p, 0, none⟩), .int .i64 K] w fun e w' => e = .returned (.bool (lightB L (sumL l / K) l)) ∧ Below w.heap.size w w' := by
  obtain ⟨hL1, hL2⟩ := h.uni
  have hp48 := pw_le48 hL2
  have hU := asU_map l h.allU
  generalize asU l h.allU = U at *
  have hW := hide (fun W => wrong_c p K W hK hK2)
  have hT := hide (fun W (hW : Below w.heap.size w W) => pool_total p kd L l F W (h.kept hW))
  have hC := hide (fun W => cap_c (sumL l) K W (sumL_nonneg l h.canon.cntL) hK h.sum (by omega))
  have hm0 : 0 ≤ sumL l / K := Int.ediv_nonneg (sumL_nonneg l h.canon.cntL) (by omega)
  have hkeep := hide (fun W (hW : Below w.heap.size w W) => h.kept hW)
  clear h
  have hnil : ∀ (x : Option Addr) (W : World), (binOp BinOp.eql 202 (.func (.func 184) #[] #[.pointer x]) .nilFunc).run Tryz.prog W = .ok (.bool false) W := fun _ _ => by kernel_rfl
  generalize hM : sumL l / K = M at *
  clear hM
  obtain ⟨R, hR⟩ : ∃ R, Hid (lightB L M l = R) := ⟨_, rfl⟩
  rw [hR.out]
  refine (callsIn_wide (n := 9)).1 ?_
  refine callsIn_of_wp_marks Tryz.func101 rfl trivial ?_ rfl
  simp only [Tryz.ntmps101, List.size_toArray, List.length_cons, List.length_nil, Nat.reduceAdd, Nat.reduceSub, Array.replicate_succ, Array.replicate_zero, List.push_toArray, List.append_toArray, List.nil_append, List.cons_append]
  refine wpIn_wide.2 ?_
  go_wp2_with fail
  refine Calls.mono (hW.out _) ?_
  rintro e w1 ⟨rfl, rfl⟩
  go_wp2_with fail
  have hb0 : Below w.heap.size w ((w.alloc (.cells #[.pointer (some ⟨p, 0, none⟩)] 74)).alloc (.cells #[.bool false] 4)) := balloc (balloc0 w _) _
  refine Calls.mono (hT.out _ hb0) ?_
  rintro e w1 ⟨rfl, hb1⟩
  have b2 : Blk w1 w.heap.size 74 #[.pointer (some ⟨p, 0, none⟩)] := ((Blk.made w _ _).alloc _).kept hb1
  have b4 : Blk w1 (w.heap.size + 1) 4 #[.bool false] := (Blk.made_at _ _ _ (by simp)).kept hb1
  have c2 := b2.cell 0
  have hz1 : w.heap.size + 2 ≤ w1.heap.size := by have := hb1.size; simpa using this
  have hb1 := hide (hb0.trans (hb1.mono (by simp; omega)))
  have hl2 : w.heap.size < w1.heap.size := by omega
  clear hb0
  go_wp2_with fail
  refine Calls.mono (hC.out _) ?_
  rintro e w2 ⟨rfl, rfl⟩
  go_wp2_with fail
  refine Calls.mono (pool_each _ _) ?_
  rintro e w2 ⟨rfl, rfl⟩
  go_wp2_with fail
  have hB1 : Below w1.heap.size w1 ((w1.alloc (.cells #[.int .i64 M] 3)).alloc (.cells #[.pointer (some ⟨p, 0, none⟩)] 74)) := balloc (balloc0 w1 _) _
  have b5 : Blk ((w1.alloc (.cells #[.int .i64 M] 3)).alloc (.cells #[.pointer (some ⟨p, 0, none⟩)] 74)) w1.heap.size 3 #[.int .i64 M] := (Blk.made w1 _ _).alloc _
  have bE : Blk ((w1.alloc (.cells #[.int .i64 M] 3)).alloc (.cells #[.pointer (some ⟨p, 0, none⟩)] 74)) (w1.heap.size + 1) 74 #[.pointer (some ⟨p, 0, none⟩)] := Blk.made_at _ _ _ (by simp)
  have b2' := b2.kept hB1
  have b4' := b4.kept hB1
  have hsz := hb1.out.size
  have hB2 := hb1.out.trans (hB1.mono hsz)
  have hWs : ((w1.alloc (.cells #[.int .i64 M] 3)).alloc (.cells #[.pointer (some ⟨p, 0, none⟩)] 74)).heap.size = w1.heap.size + 2 := by simp
  generalize ((w1.alloc (.cells #[.int .i64 M] 3)).alloc (.cells #[.pointer (some ⟨p, 0, none⟩)] 74)) = W2 at *
  have hst := pool_stops (9 - 1) (by omega) (w1.heap.size + 1) p kd L l F U hU W2 (by omega) (bE.cell 0) (hkeep.out W2 hB2)
  clear bE b2 b4 c2 hB1
  refine (wpIn_wide (n := 9)).1 ?_
  refine wpIn_rangeFunc_ownG (n := 9) rfl (by omega) (gf := 184) (lb := #[.pointer (some ⟨w1.heap.size + 1, 0, none⟩)]) rfl trivial (enters_of Tryz.func184 (by kernel_rfl) rfl)
    hst KeepN.trans (fun W j o o' _ hj ho _ => keepN_put W j o o' hj ho) (Below.refl _ _) (fun _ => rfl)
    (fun pre W => lightB L M (pre.map (·.1)) = true ∧ Blk W w.heap.size 74 #[.pointer (some ⟨p, 0, none⟩)] ∧ Blk W (w.heap.size + 1) 4 #[.bool false] ∧ Blk W w1.heap.size 3 #[.int .i64 M] ∧ Below w.heap.size w W)
    (fun c pre W => c = .ret ∧ lightB L M (pre.map (·.1)) = false ∧ Blk W (w.heap.size + 1) 4 #[.bool false] ∧ Below w.heap.size w W)
    (fun pre A B row hs hg hr => ⟨hs.1, blk_own hs.2.1 hg hr, blk_own hs.2.2.1 hg hr, blk_own hs.2.2.2.1 hg hr, below_own hs.2.2.2.2 hs.2.2.2.2.size (by omega) hg hr⟩)
    (fun c pre A B row hs hg hr => ⟨hs.1, hs.2.1, blk_own hs.2.2.1 hg hr, below_own hs.2.2.2 hs.2.2.2.size (by omega) hg hr⟩)
    ⟨rfl, b2', b4', b5, hB2⟩
    (fun x => { tmps := ((.pointer (some ⟨p, 0, none⟩) : Value) :: (.int .i64 K : Value) :: (.pointer (some ⟨w.heap.size, 0, none⟩) : Value) :: undef :: (.pointer (some ⟨w.heap.size + 1, 0, none⟩) : Value) :: (.pointer (some ⟨w1.heap.size, 0, none⟩) : Value) :: (.int .i64 x.1.1 : Value) :: (.int .i64 x.1.2 : Value) :: undef :: undef :: undef :: (.pointer (some ⟨p, 0, none⟩) : Value) :: (.int .i64 K : Value) :: (.int .i64 0 : Value) :: (.bool false : Value) :: (.pointer (some ⟨p, 0, none⟩) : Value) :: (.int .i64 (sumL l) : Value) :: (.int .i64 K : Value) :: (.int .i64 M : Value) :: (.pointer (some ⟨p, 0, none⟩) : Value) :: (.func (.func 184) #[] #[.pointer (some ⟨w1.heap.size + 1, 0, none⟩)] : Value) :: (.int .i64 x.1.1 : Value) :: (.int .i64 x.1.2 : Value) :: undef :: undef :: undef :: undef :: undef :: undef :: undef :: undef :: undef :: undef :: undef :: undef :: undef :: undef :: []).toArray, defers := [] }) ?assign ?body ?done ?stop
  case assign =>
    intro l x W K hK
    dsimp only [encN]
    gi_wp2
    exact hK
  case body =>
    rintro lp pre x W ⟨hlt, hb2, hb4, hb5, hB⟩ hlen
    have c2 := hb2.cell 0
    have hPl := hide (pool_l p kd L l F W (hkeep.out W hB))
    obtain ⟨⟨y, cnt⟩, hx⟩ := x
    have hli : Hid (lightB L M ((pre ++ [(⟨(y, cnt), hx⟩ : NdU)]).map (·.1)) = !heavyB L M (y, cnt)) := by
      show _ = _
      rw [List.map_append]
      unfold lightB at hlt ⊢
      rw [List.all_append, hlt]
      simp
    simp only [] at hx ⊢
    have hb2 := hide hb2
    have hb4 := hide hb4
    have hb5 := hide hb5
    have hB := hide hB
    clear hst b5 b2' b4' hB2 hlt
    by_cases hy : y < pw L
    · have hK1 := hide (fun V => kids_yes hL1 hL2 hx.1 hy V)
      by_cases hc : M < cnt
      · have hh : heavyB L M (y, cnt) = true := by unfold heavyB; simp [hy, hc]
        rw [hh] at hli
        gi_wp2_with (refine ⟨trivial, ?_⟩; first
          | (gi_at_call 33; refine (CallsIn.inRound lp (callsIn_wide.2 hPl.out)).mono ?_; rintro e w5 ⟨rfl, hq⟩; have hq1 := hide hq; have c5 := (hb5.out.kept hq).cell 0; have c4 := (hb4.out.kept hq).cell 0; have f4 := (hb4.out.kept hq).free 0; clear hq)
          | (gi_at_call 150; refine (CallsIn.inRound lp (callsIn_wide.2 (hK1.out _))).mono ?_; rintro e w6 ⟨rfl, rfl⟩))
        have hq := hq1.out
        have b4n := (hb4.out.kept hq).set 0 (.bool false)
        have hlo := (hB.out.trans (hq.mono hB.out.size)).setCell (p := ⟨w.heap.size + 1, 0, none⟩) (Nat.le_succ _) (.bool false)
        exact ⟨(below_keepsFrom hq _).trans ((KeepsOthers.setCell _ _ _).from _), rfl, by rw [hli.out]; rfl, by simpa using b4n, hlo⟩
      · have hh : heavyB L M (y, cnt) = false := by unfold heavyB; simp [hc]
        rw [hh] at hli
        gi_wp2_with (refine ⟨trivial, ?_⟩; first
          | (gi_at_call 33; refine (CallsIn.inRound lp (callsIn_wide.2 hPl.out)).mono ?_; rintro e w5 ⟨rfl, hq⟩; have hq1 := hide hq; have c5 := (hb5.out.kept hq).cell 0; clear hq)
          | (gi_at_call 150; refine (CallsIn.inRound lp (callsIn_wide.2 (hK1.out _))).mono ?_; rintro e w6 ⟨rfl, rfl⟩))
        have hq := hq1.out
        exact ⟨below_keepsFrom hq _, below_keepN hq, by rw [hli.out]; rfl, hb2.out.kept hq, hb4.out.kept hq, hb5.out.kept hq, hB.out.trans (hq.mono hB.out.size)⟩
    · have hK1 := hide (fun V => kids_no (L := L) (x := y) (fun k => hy k.2.2.2) V)
      have hh : heavyB L M (y, cnt) = false := by unfold heavyB; simp [hy]
      rw [hh] at hli
      gi_wp2_with (refine ⟨trivial, ?_⟩; first
        | (gi_at_call 33; refine (CallsIn.inRound lp (callsIn_wide.2 hPl.out)).mono ?_; rintro e w5 ⟨rfl, hq⟩; have hq1 := hide hq; have c5 := (hb5.out.kept hq).cell 0; clear hq)
        | (gi_at_call 150; refine (CallsIn.inRound lp (callsIn_wide.2 (hK1.out _))).mono ?_; rintro e w6 ⟨rfl, rfl⟩))
      have hq := hq1.out
      exact ⟨below_keepsFrom hq _, below_keepN hq, by rw [hli.out]; rfl, hb2.out.kept hq, hb4.out.kept hq, hb5.out.kept hq, hB.out.trans (hq.mono hB.out.size)⟩
  case done =>
    rintro D ys W hD hys ⟨hlt, hb2, hb4, hb5, hB⟩ hKd
    have hRt : R = true := by rw [← hR.out, ← hU, ← hys]; exact hlt
    subst hRt
    have c4 := hb4.cell 0
    have f4 := hb4.free 0
    have hb4 := hide hb4
    have hBs := hB.size
    have hB := hide hB
    have hKd := hide hKd
    clear hst b5 b2' b4' hB2 hlt hb2 hb5 hys hR
    go_wp2_with fail
    have hK' := (KeepsOthers.setCell W ⟨w.heap.size + 1, 0, none⟩ (.bool true)).same D _ hKd.out rfl
    refine ⟨by simp, .inl ⟨_, _, rfl, run_takeDeferred hK', ?_⟩⟩
    have b4n := (hb4.out.set 0 (.bool true)).turned (grown_turn (grownBy_putObj' _ D (.deferred none))) (by omega)
    have hc5 := b4n.cell 0
    simp only [List.setIfInBounds_toArray, List.set_cons_zero] at hc5
    refine ⟨.bool true, by simp [results, Tryz.results101, go_sem, hc5], rfl, ?_⟩
    exact (hB.out.setCell (p := ⟨w.heap.size + 1, 0, none⟩) (Nat.le_succ _) (.bool true)).trans ((grown_turn (grownBy_putObj' _ D (.deferred none))).below w.heap.size (by simpa using hBs) fun j hj e => by omega)
  case stop =>
    rintro D c pre W hD hSp ⟨rfl, hlf, hb4, hB⟩ hKd
    have hRf : R = false := by rw [← hR.out, ← hU]; exact light_pre hSp hlf
    subst hRf
    have c4 := hb4.cell 0
    have hBs := hB.size
    have hB := hide hB
    have hKd := hide hKd
    have hb4 := hide hb4
    clear hst b5 b2' b4' hB2 hlf hSp hR
    gi_wp2
    refine ⟨by simp, .inl ⟨_, _, rfl, run_takeDeferred hKd.out, ?_⟩⟩
    have hc5 := (hb4.out.turned (grown_turn (grownBy_putObj' W D (.deferred none))) (by omega)).cell 0
    refine ⟨.bool false, by simp [results, Tryz.results101, go_sem, hc5], rfl, ?_⟩
    exact hB.out.trans ((grown_turn (grownBy_putObj' W D (.deferred none))).below w.heap.size hBs fun j hj e => by omega)
end Go.Proofs.YteebghoijaaakaaGreat
/- The walks of digest.*: New, what is read, Compress. By the prover of this repo. -/
namespace Go.Proofs.YteebghoijaaakaaGreat
open Go.RowKit
open TwigM RollM StoM

/-- A digest, in block d: its k, and its pool. -/
structure DigAt (w : World) (d p : Nat) (K kd L : Int) (l : List Nd) (F : Nat → Prop) : Prop where
  blk : Blk w d 78 #[.int .i64 K, .pointer (some ⟨p, 0, none⟩)]
  pool : PoolAt w p kd L l F
  ndp : d ≠ p
  ndF : ¬ F d
  k1 : 1 ≤ K
  k2 : K ≤ 1048576
theorem DigAt.kept {w w' : World} {d p : Nat} {K kd L : Int} {l : List Nd} {F : Nat → Prop} (h : DigAt w d p K kd L l F) (b : Below w.heap.size w w') : DigAt w' d p K kd L l F :=
  ⟨h.blk.kept b, h.pool.kept b, h.ndp, h.ndF, h.k1, h.k2⟩
theorem DigAt.lt {w : World} {d p : Nat} {K kd L : Int} {l : List Nd} {F : Nat → Prop} (h : DigAt w d p K kd L l F) : d < w.heap.size ∧ p < w.heap.size ∧ ∀ j, F j → j < w.heap.size := ⟨h.blk.lt, h.pool.lt⟩
def conf (L K kd : Int) : Value := .agg #[.int .i64 L, .int .i64 K, .int .i64 kd]
def confB (L K kd : Int) : Bool := kindB kd L && (decide (1 ≤ K) && decide (K ≤ 1048576))
theorem digest_new_no (L K kd : Int) (w : World) (h : confB L K kd = false) :
    Calls Tryz.prog 13 #[conf L K kd] w fun e w' => e = .returned (.tuple #[.pointer none, .int .i64 2]) ∧ Below w.heap.size w w' := by
  unfold conf
  have hb0 := balloc0 w (.cells #[.int .i64 L, .int .i64 K, .int .i64 kd] 42)
  have bC := Blk.made w 42 #[.int .i64 L, .int .i64 K, .int .i64 kd]
  by_cases hk : kindB kd L = true
  · have hK : K < 1 ∨ 1048576 < K := by
      unfold confB at h
      rw [hk, Bool.true_and] at h
      by_cases h1 : 1 ≤ K
      · by_cases h2 : K ≤ 1048576
        · simp [h1, h2] at h
        · omega
      · omega
    have hN := hide (fun W => pool_new kd L W hk)
    have hk2 := hide (fun W (hW : Below (w.heap.size + 1) (w.alloc (.cells #[.int .i64 L, .int .i64 K, .int .i64 kd] 42)) W) => (bC.kept (by simpa using hW)).cell 1)
    clear h hk bC
    rcases hK with hK | hK
    all_goals
      go_enter Tryz.func13, Tryz.ntmps13
      go_wp2_with fail
      refine Calls.mono (hN.out _) ?_
      rintro e w1 ⟨p, F, rfl, hp, -, -, hb1⟩
      have c1 := hk2.out w1 (by simpa using hb1)
      have hb := hide (hb0.trans (hb1.mono (by simp)))
      clear hp hb1
      go_wp2_with fail
      go_ret2
      exact ⟨rfl, hb.out⟩
  · have hN := hide (fun W => pool_new_no kd L W (by simpa using hk))
    clear h hk bC
    go_enter Tryz.func13, Tryz.ntmps13
    go_wp2_with fail
    refine Calls.mono (hN.out _) ?_
    rintro e w1 ⟨rfl, hb1⟩
    have hb := hide (hb0.trans (hb1.mono (by simp)))
    clear hb1
    go_wp2_with fail
    go_ret2
    exact ⟨rfl, hb.out⟩
theorem digest_new (L K kd : Int) (w : World) (h : confB L K kd = true) :
    Calls Tryz.prog 13 #[conf L K kd] w fun e w' => ∃ d p F, e = .returned (.tuple #[.pointer (some ⟨d, 0, none⟩), .int .i64 0]) ∧ DigAt w' d p K kd L [] F ∧ w.heap.size ≤ d ∧ w.heap.size ≤ p ∧ (∀ j, F j → w.heap.size ≤ j) ∧ Below w.heap.size w w' := by
  unfold conf
  unfold confB at h
  obtain ⟨hk, hK⟩ := Bool.and_eq_true_iff.1 h
  have hK2 : 1 ≤ K ∧ K ≤ 1048576 := by simpa using hK
  obtain ⟨h1, h2⟩ := hK2
  have hb0 := balloc0 w (.cells #[.int .i64 L, .int .i64 K, .int .i64 kd] 42)
  have bC := Blk.made w 42 #[.int .i64 L, .int .i64 K, .int .i64 kd]
  have hN := hide (fun W => pool_new kd L W hk)
  have hk2 := hide (fun W (hW : Below (w.heap.size + 1) (w.alloc (.cells #[.int .i64 L, .int .i64 K, .int .i64 kd] 42)) W) => (bC.kept (by simpa using hW)).cell 1)
  clear h hk bC hK
  go_enter Tryz.func13, Tryz.ntmps13
  go_wp2_with fail
  refine Calls.mono (hN.out _) ?_
  rintro e w1 ⟨p, F, rfl, hp, hpw, hF, hb1⟩
  have c1 := hk2.out w1 (by simpa using hb1)
  have hsz := hb1.size
  have hb := hide (hb0.trans (hb1.mono (by simp)))
  have hpl := hp.lt
  have hph := hide hp
  have hF := hide hF
  clear hp hb1
  have hl1 : w.heap.size + 1 ≤ w1.heap.size := by simpa using hsz
  go_wp2_with fail
  go_ret2
  have hpw2 : w.heap.size + 1 ≤ p := by simpa using hpw
  refine ⟨w1.heap.size, p, F, rfl, ⟨Blk.made _ _ _, hph.out.kept (balloc0 _ _), by omega, fun k => by have := hpl.2 _ k; omega, h1, h2⟩, by omega, by omega, fun j hj => by have := hF.out j hj; simp at this; omega, balloc hb.out _⟩
theorem digest_room (K : Int) (w : World) (h1 : 1 ≤ K) (h2 : K ≤ 1048576) : Calls Tryz.prog 42 #[.agg #[.int .i64 K]] w fun e w' => e = .returned (.int .i64 (8 * K)) ∧ Below w.heap.size w w' := by
  go_enter Tryz.func42, Tryz.ntmps42
  go_wp2_with fail
  go_ret
  exact ⟨rfl, balloc0 _ _⟩
section
variable (d p : Nat) (K kd L : Int) (l : List Nd) (F : Nat → Prop) (w : World)
theorem digest_n (h : DigAt w d p K kd L l F) : Calls Tryz.prog 30 #[.pointer (some ⟨d, 0, none⟩)] w fun e w' => e = .returned (.int .i64 (sumL l)) ∧ Below w.heap.size w w' := by
  have c1 := h.blk.cell 1
  have hP := hide (pool_total p kd L l F w h.pool)
  clear h
  go_enter Tryz.func30, Tryz.ntmps30
  go_wp2_with fail
  refine Calls.mono hP.out ?_
  rintro e w1 ⟨rfl, hb⟩
  go_wp2_with fail
  go_ret
  exact ⟨rfl, hb⟩
theorem digest_len (h : DigAt w d p K kd L l F) : Calls Tryz.prog 18 #[.pointer (some ⟨d, 0, none⟩)] w fun e w' => e = .returned (.int .i64 (l.length : Int)) ∧ Below w.heap.size w w' := by
  have c1 := h.blk.cell 1
  have hP := hide (pool_len p kd L l F w h.pool)
  clear h
  go_enter Tryz.func18, Tryz.ntmps18
  go_wp2_with fail
  refine Calls.mono hP.out ?_
  rintro e w1 ⟨rfl, hb⟩
  go_wp2_with fail
  go_ret
  exact ⟨rfl, hb⟩
theorem digest_nodes (h : DigAt w d p K kd L l F) : Calls Tryz.prog 28 #[.pointer (some ⟨d, 0, none⟩)] w fun e w' => ∃ v, e = .returned v ∧ w'.ownsRow w.heap.size 67 2 v l.length (ndv l) ∧ Below w.heap.size w w' := by
  have c1 := h.blk.cell 1
  have hP := hide (pool_snap p kd L l F w h.pool)
  clear h
  go_enter Tryz.func28, Tryz.ntmps28
  go_wp2_with fail
  refine Calls.mono hP.out ?_
  rintro e w1 ⟨v, rfl, hv, hb⟩
  go_wp2_with fail
  go_ret
  exact ⟨v, rfl, hv, hb⟩
end
end Go.Proofs.YteebghoijaaakaaGreat
