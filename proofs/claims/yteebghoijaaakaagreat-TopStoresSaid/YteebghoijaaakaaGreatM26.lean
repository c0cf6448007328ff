/- Part 26 of the proof: texts joined by this repo's tools/merge2.py (Enc). By the prover of this repo. -/
import Derived.Test.YteebghoijaaakaaGreatM15
import Derived.Test.YteebghoijaaakaaGreatM20
import Derived.Deep.RegionHeldLaw
import Derived.Deep.AppendLies
import Derived.Deep.RegionWith
set_option linter.unusedVariables false
set_option linter.unusedSimpArgs false
/- The walk of wire.Encode: a digest's bytes. By the prover of this repo. -/
namespace Go.Proofs.YteebghoijaaakaaGreat
open Go.RowKit
open TwigM RollM StoM VaryM

/-- A row of another type stays while one grows. -/
theorem own_other {w w' : World} {b b2 : Nat} {e e2 : TypeId} {size size2 n n2 : Nat} {u v : Value} {xs ys : List Value} (h : w.ownsRow b e size v n xs) (hu : w.ownsRow b2 e2 size2 u n2 ys) (hg : w.grownBy w' u.ownBlock) (hne : e ≠ e2) : w'.ownsRow b e size v n xs := by
  refine ⟨h.1, ?_⟩
  rcases h.2 with k | ⟨g, cap, cur, rfl, hb, hg1, rest⟩
  · exact .inl k
  · refine .inr ⟨g, cap, cur, rfl, hb, (hg.block g (Array.getElem?_eq_some_iff.1 hg1).1 fun k => ?_).trans hg1, rest⟩
    rcases hu.2 with ⟨rfl, _⟩ | ⟨g2, cap2, cur2, rfl, _, hg2, _⟩
    · cases k
    · have k : g2 = g := Option.some.inj k.symm
      subst k
      rw [hg1] at hg2
      injection hg2 with hg2
      injection hg2 with _ ht _
      exact hne ht
theorem blk_other {w w' : World} {b2 : Nat} {e2 t : TypeId} {size2 n2 g : Nat} {u : Value} {ys : List Value} {cs : Array Value} (h : Blk w g t cs) (hu : w.ownsRow b2 e2 size2 u n2 ys) (hg : w.grownBy w' u.ownBlock) (hne : t ≠ e2) : Blk w' g t cs :=
  (hg.block g h.lt fun k => by
    rcases hu.2 with ⟨rfl, _⟩ | ⟨g2, cap2, cur2, rfl, _, hg2, _⟩
    · cases k
    · have k : g2 = g := Option.some.inj k.symm
      subst k
      unfold Blk at h
      rw [h] at hg2
      injection hg2 with hg2
      injection hg2 with _ ht _
      exact hne ht).trans h
/-- A row of the same type in another block. -/
theorem own_apart {w w' : World} {b : Nat} {e : TypeId} {size n : Nat} {u v : Value} {xs : List Value} (h : w.ownsRow b e size v n xs) (hg : w.grownBy w' u.ownBlock) (hne : ∀ j, v.ownBlock = some j → u.ownBlock ≠ some j) : w'.ownsRow b e size v n xs := by
  refine ⟨h.1, ?_⟩
  rcases h.2 with k | ⟨g, cap, cur, rfl, hb, hg1, rest⟩
  · exact .inl k
  · exact .inr ⟨g, cap, cur, rfl, hb, (hg.block g (Array.getElem?_eq_some_iff.1 hg1).1 fun k => hne g rfl k.symm).trans hg1, rest⟩
/-- What a round of the gathering holds. -/
structure GatAt (w wr : World) (cb : Nat) (L K kd : Int) (A : Option Addr) (c n : Nat) (l : List Nd) (i : Nat) (u v : Value) : Prop where
  row : wr.ownsRow w.heap.size 67 2 (.slice A n c) n (ndv l)
  conf : Blk wr cb 42 #[.int .i64 L, .int .i64 K, .int .i64 kd]
  ids : wr.ownsRow w.heap.size 3 1 u i (((l.take i).map (·.1)).map iv)
  cnts : wr.ownsRow w.heap.size 3 1 v i (((l.take i).map (·.2)).map iv)
  apart : ∀ j, u.ownBlock = some j → v.ownBlock ≠ some j
  bel : Below w.heap.size w wr
theorem GatAt.kept {w wr w' : World} {cb : Nat} {L K kd : Int} {A : Option Addr} {c n : Nat} {l : List Nd} {i : Nat} {u v : Value} (s : GatAt w wr cb L K kd A c n l i u v) (hb : Below wr.heap.size wr w') : GatAt w w' cb L K kd A c n l i u v :=
  ⟨own_kept s.row hb, s.conf.kept hb, own_kept s.ids hb, own_kept s.cnts hb, s.apart, s.bel.trans (hb.mono s.bel.size)⟩
theorem blk_grown {W w' : World} {k : Nat} {t : TypeId} {cs : Array Value} {r : Option Nat} (h : Blk W k t cs) (hg : W.grownBy w' r) (hne : r ≠ some k) : Blk w' k t cs := (hg.block k h.lt fun e => hne e.symm).trans h
theorem step_int {W : World} {ops : Array Oper} {o : Oper} {a : Act} {K : Act → World → Prop} {Q : Exit → Act → World → Prop} {E : Prop} (d : Option Nat) (hd : o.dst = d) (hgd : o.guard = none) (s x : Operand)
    (ho : o.op = .call { callee := .builtin .append, args := #[s, x], argTypes := #[22, 22] }) (base : Nat) (v : Value) (n : Nat) (xs : List Value) (hs : a.eval s = v) (hown : W.ownsRow base 3 1 v n xs)
    (k : Nat) (z : Int) (hx : a.eval x = .slice (some ⟨k, 0, none⟩) 1 1) (hk : Blk W k 3 #[.int .i64 z]) (hn : n ≤ 100000) (hbase : base ≤ W.heap.size)
    (h : ∀ g cap w', w'.ownsRow base 3 1 (.slice (some ⟨g, 0, none⟩) (n + 1) cap) (n + 1) (xs ++ [.int .i64 z]) → W.grownBy w' v.ownBlock → (v.ownBlock = some g ∨ g = W.heap.size) → K (a.put d (.slice (some ⟨g, 0, none⟩) (n + 1) cap)) w') :
    if Region.wanted o (yielded ops a.tmps) = true then Oper.wp Tryz.prog o a W K Q else E := by
  subst hd
  obtain ⟨i0, hi0, hz0, hz1, hz2⟩ := info_parts elInt.info
  refine step_append_lies W hgd s x 22 ho base 3 i0 (.int .i64 0) 1 8 Tryz.underlying22 hi0 hz0 hz1 hz2 rfl (by omega) v n xs hs hown ⟨k, 0, none⟩ 1 1 [.int .i64 z] hx rfl (World.news_of_block (cs := #[.int .i64 z]) (t := 3) (fr := (0, 0)) hk) (by simp [Value.oneCell'])
    (by omega) (by unfold maxLen; omega) (by omega) hbase W.heap.size rfl ?_
  intro g cap w' h1 h2 h3 _
  exact h g cap w' h1 h2 h3
section
variable {w V W1 wa W2 wb : World} {cb : Nat} {L K kd : Int} {A : Option Addr} {c n : Nat} {l : List Nd} {i ga ca gb cap : Nat} {u v : Value}
/-- One of both is longer by one, then the other one. -/
theorem GatAt.both1 (s : GatAt w V cb L K kd A c n l i u v) (hi : i < l.length) {x y : Int} (hx : l[i].1 = x) (hy : l[i].2 = y) (b1 : Below V.heap.size V W1) (hA : wa.ownsRow w.heap.size 3 1 (.slice (some ⟨ga, 0, none⟩) (i + 1) ca) (i + 1) (((l.take i).map (·.1)).map iv ++ [.int .i64 x])) (hgA : W1.grownBy wa u.ownBlock) (hatA : u.ownBlock = some ga ∨ ga = W1.heap.size)
    (b2 : Below wa.heap.size wa W2) (hB : wb.ownsRow w.heap.size 3 1 (.slice (some ⟨gb, 0, none⟩) (i + 1) cap) (i + 1) (((l.take i).map (·.2)).map iv ++ [.int .i64 y])) (hgB : W2.grownBy wb v.ownBlock) (hatB : v.ownBlock = some gb ∨ gb = W2.heap.size) :
    GatAt w wb cb L K kd A c n l (i + 1) (.slice (some ⟨ga, 0, none⟩) (i + 1) ca) (.slice (some ⟨gb, 0, none⟩) (i + 1) cap) := by
  subst hx hy
  have s1 := s.kept b1
  have hlu : ∀ j, u.ownBlock = some j → j < V.heap.size := fun j hj => (s.ids.lt j hj).2
  have hlv : ∀ j, v.ownBlock = some j → j < V.heap.size := fun j hj => (s.cnts.lt j hj).2
  have hz1 := b1.size
  have hza := hgA.size
  have hz2 := b2.size
  have hga : ga < wa.heap.size := (hA.lt ga rfl).2
  have hv1 := own_kept (own_apart s1.cnts hgA fun j hj e => s.apart j e hj) b2
  have e1 : ((l.take (i + 1)).map (·.1)).map iv = ((l.take i).map (·.1)).map iv ++ [.int .i64 l[i].1] := by rw [List.take_succ_eq_append_getElem hi, List.map_append, List.map_append]; rfl
  have e2 : ((l.take (i + 1)).map (·.2)).map iv = ((l.take i).map (·.2)).map iv ++ [.int .i64 l[i].2] := by rw [List.take_succ_eq_append_getElem hi, List.map_append, List.map_append]; rfl
  have hne : ∀ j, (Value.slice (some ⟨ga, 0, none⟩) (i + 1) ca).ownBlock = some j → v.ownBlock ≠ some j := fun j hj e => by
    have hj : ga = j := Option.some.inj hj
    subst hj
    rcases hatA with k | k
    · exact s.apart ga k e
    · have := hlv ga e; omega
  refine ⟨own_other (own_kept (own_other s1.row s1.ids hgA (by decide)) b2) hv1 hgB (by decide), blk_other ((blk_other s1.conf s1.ids hgA (by decide)).kept b2) hv1 hgB (by decide), by rw [e1]; exact own_apart (own_kept hA b2) hgB hne, by rw [e2]; exact hB, fun j hj e => ?_, ?_⟩
  · have hj : ga = j := Option.some.inj hj
    have he : gb = j := Option.some.inj e
    subst hj
    rcases hatB with k | k
    · exact hne ga rfl (by rw [← he]; exact k)
    · omega
  · have h1 : Below w.heap.size w wa := s1.bel.grown hgA s1.bel.size fun k hk => (s1.ids.lt k hk).1
    exact (h1.trans (b2.mono h1.size)).grown hgB (Nat.le_trans h1.size hz2) fun k hk => (hv1.lt k hk).1
theorem GatAt.both2 (s : GatAt w V cb L K kd A c n l i u v) (hi : i < l.length) {x y : Int} (hx : l[i].1 = x) (hy : l[i].2 = y) (b1 : Below V.heap.size V W1) (hB : wb.ownsRow w.heap.size 3 1 (.slice (some ⟨gb, 0, none⟩) (i + 1) cap) (i + 1) (((l.take i).map (·.2)).map iv ++ [.int .i64 y])) (hgB : W1.grownBy wb v.ownBlock) (hatB : v.ownBlock = some gb ∨ gb = W1.heap.size)
    (b2 : Below wb.heap.size wb W2) (hA : wa.ownsRow w.heap.size 3 1 (.slice (some ⟨ga, 0, none⟩) (i + 1) ca) (i + 1) (((l.take i).map (·.1)).map iv ++ [.int .i64 x])) (hgA : W2.grownBy wa u.ownBlock) (hatA : u.ownBlock = some ga ∨ ga = W2.heap.size) :
    GatAt w wa cb L K kd A c n l (i + 1) (.slice (some ⟨ga, 0, none⟩) (i + 1) ca) (.slice (some ⟨gb, 0, none⟩) (i + 1) cap) := by
  subst hx hy
  have s1 := s.kept b1
  have hlu : ∀ j, u.ownBlock = some j → j < V.heap.size := fun j hj => (s.ids.lt j hj).2
  have hlv : ∀ j, v.ownBlock = some j → j < V.heap.size := fun j hj => (s.cnts.lt j hj).2
  have hz1 := b1.size
  have hza := hgB.size
  have hz2 := b2.size
  have hgb : gb < wb.heap.size := (hB.lt gb rfl).2
  have hv1 := own_kept (own_apart s1.ids hgB fun j hj e => s.apart j hj e) b2
  have e1 : ((l.take (i + 1)).map (·.1)).map iv = ((l.take i).map (·.1)).map iv ++ [.int .i64 l[i].1] := by rw [List.take_succ_eq_append_getElem hi, List.map_append, List.map_append]; rfl
  have e2 : ((l.take (i + 1)).map (·.2)).map iv = ((l.take i).map (·.2)).map iv ++ [.int .i64 l[i].2] := by rw [List.take_succ_eq_append_getElem hi, List.map_append, List.map_append]; rfl
  have hne : ∀ j, (Value.slice (some ⟨gb, 0, none⟩) (i + 1) cap).ownBlock = some j → u.ownBlock ≠ some j := fun j hj e => by
    have hj : gb = j := Option.some.inj hj
    subst hj
    rcases hatB with k | k
    · exact s.apart gb e k
    · have := hlu gb e; omega
  refine ⟨own_other (own_kept (own_other s1.row s1.cnts hgB (by decide)) b2) hv1 hgA (by decide), blk_other ((blk_other s1.conf s1.cnts hgB (by decide)).kept b2) hv1 hgA (by decide), by rw [e1]; exact hA, by rw [e2]; exact own_apart (own_kept hB b2) hgA hne, fun j hj e => ?_, ?_⟩
  · have hj : ga = j := Option.some.inj hj
    have he : gb = j := Option.some.inj e
    subst hj
    rcases hatA with k | k
    · exact hne gb rfl (by rw [he]; exact k)
    · omega
  · have h1 : Below w.heap.size w wb := s1.bel.grown hgB s1.bel.size fun k hk => (s1.cnts.lt k hk).1
    exact (h1.trans (b2.mono h1.size)).grown hgA (Nat.le_trans h1.size hz2) fun k hk => (hv1.lt k hk).1
end
theorem pool_total_same (p : Nat) (kd L : Int) (l : List Nd) (F : Nat → Prop) (w : World) (h : PoolAt w p kd L l F) :
    Calls Tryz.prog 40 #[.pointer (some ⟨p, 0, none⟩)] w fun e w' => e = .returned (.int .i64 (sumL l)) ∧ w = w' := by
  rcases h.kind with ⟨rfl, g, b, hb, hd, -⟩ | ⟨rfl, g, b, k, cp, R, hb, hd, hk2, -⟩
  · have c0 := hb.cell 0
    have c1 := hb.cell 1
    have hI := hide (pool_arr p g w c0)
    have hC := hide (dense_total g b L l w hd)
    clear h hb hd
    go_enter Tryz.func40, Tryz.ntmps40
    go_wp2_with fail
    refine Calls.mono hI.out ?_
    rintro e w1 ⟨rfl, rfl⟩
    go_wp2_with fail
    refine Calls.mono hC.out ?_
    rintro e w1 ⟨rfl, rfl⟩
    go_wp2_with fail
    go_ret
    exact ⟨rfl, rfl⟩
  · have c0 := hb.cell 0
    have c1 := hb.cell 1
    have hI := hide (pool_not p w c0)
    have hJ := hide (pool_inner p _ w c1)
    have hC := hide (probe_total g b k cp R L _ _ w hd.raw)
    clear h hb hd
    go_enter Tryz.func40, Tryz.ntmps40
    go_wp2_with fail
    refine Calls.mono hI.out ?_
    rintro e w1 ⟨rfl, rfl⟩
    go_wp2_with fail
    refine Calls.mono hJ.out ?_
    rintro e w1 ⟨rfl, rfl⟩
    go_wp2_with fail
    refine Calls.mono hC.out ?_
    rintro e w1 ⟨rfl, rfl⟩
    go_wp2_with fail
    go_ret
    exact ⟨rfl, rfl⟩
theorem digest_n_same (d p : Nat) (K kd L : Int) (l : List Nd) (F : Nat → Prop) (w : World) (h : DigAt w d p K kd L l F) : Calls Tryz.prog 30 #[.pointer (some ⟨d, 0, none⟩)] w fun e w' => e = .returned (.int .i64 (sumL l)) ∧ w = w' := by
  have c1 := h.blk.cell 1
  have hP := hide (pool_total_same p kd L l F w h.pool)
  clear h
  go_enter Tryz.func30, Tryz.ntmps30
  go_wp2_with fail
  refine Calls.mono hP.out ?_
  rintro e w1 ⟨rfl, rfl⟩
  go_wp2_with fail
  go_ret
  exact ⟨rfl, rfl⟩
theorem putF_size {f : Nat → Int} {n : Nat} (hf : ∀ i, i < n → f i ≤ 9223372036854775807) : (putF f n).1.size ≤ 9 * n := by
  have := encs_len (f := f) n hf
  unfold putF
  split
  · show (encsStr f n).size ≤ _
    exact this
  · show (⟨#[]⟩ : ByteArray).size ≤ _
    exact Nat.zero_le _
theorem lastF_nonneg {f : Nat → Int} {n : Nat} (h : ∀ i, i < n → lastF f i < f i) : ∀ k, k ≤ n → 0 ≤ lastF f k
  | 0, _ => Int.le_refl 0
  | k + 1, hk => by
    have h1 := lastF_nonneg h k (by omega)
    have h2 := h k (by omega)
    show 0 ≤ f k
    omega
theorem risF_size {f : Nat → Int} {n : Nat} (hn : n ≤ 100000) (hf : ∀ i, i < n → f i ≤ 9223372036854775807) : (risF f n).1.size ≤ 9 * n + 9 := by
  unfold risF
  split
  · rename_i h
    have h9 := enc_len9 (n := n) (by omega)
    have hg := encs_len (f := gapF f) n fun i hi => by
      have h1 := hf i hi
      have h2 := lastF_nonneg h i (by omega)
      unfold gapF; omega
    show (risT f n n).size ≤ _
    rw [risT_size]
    omega
  · show (⟨#[]⟩ : ByteArray).size ≤ _
    exact Nat.zero_le _
/-- A digest's bytes. -/
def headS (K S : Int) : ByteArray := (putF (fun i => ([K, S] : List Int).getD i 0) 2).1
def idsS (l : List Nd) : ByteArray := (risF (fun i => (l.map (·.1)).getD i 0) l.length).1
def cntsS (l : List Nd) : ByteArray := (putF (fun i => (l.map (·.2)).getD i 0) l.length).1
def rawS (L K : Int) (l : List Nd) : ByteArray := ((((⟨#[68, 87, 80, 1]⟩ : ByteArray) ++ ⟨#[UInt8.ofNat L.toNat]⟩) ++ headS K (sumL l)) ++ idsS l) ++ cntsS l
theorem byte_text (V : World) (x : Int) (h0 : 0 ≤ x) (h1 : x ≤ 255) : (convert 71 9 (.slice (some ⟨V.heap.size, 0, none⟩) 1 1)).run Tryz.prog (V.alloc (.cells #[.int .u8 x] 5)) = .ok (.string ⟨#[UInt8.ofNat x.toNat]⟩) (V.alloc (.cells #[.int .u8 x] 5)) := by
  have hB := Blk.made V 5 #[.int .u8 x]
  refine run_convert_bytes_back _ _ _ 5 ⟨V.heap.size, 0, none⟩ 1 [UInt8.ofNat x.toNat] Tryz.underlying71 Tryz.underlying5 Tryz.underlying9 fun j hj => ?_
  obtain rfl : j = 0 := by simpa using hj
  have hadd : (⟨V.heap.size, 0, none⟩ : Addr).add 0 = ⟨V.heap.size, 0, none⟩ := by simp [Addr.add]
  rw [hadd, hB.cell]
  have : ((UInt8.ofNat x.toNat).toNat : Int) = x := by
    rw [UInt8.toNat_ofNat']
    omega
  simp
  omega
set_option maxRecDepth 100000 in
set_option maxHeartbeats 4000000 in
theorem wire_encode (d p : Nat) (K kd L : Int) (l : List Nd) (F : Nat → Prop) (w : World) (h : DigAt w d p K kd L l F) (hln : l.length ≤ 50000) :
    Calls Tryz.prog 9 #[.pointer (some ⟨d, 0, none⟩)] w fun e w' => e = .returned (.tuple #[.string (SealM.sealed (rawS L K l)), .int .i64 0]) ∧ Below w.heap.size w w' := by
  obtain ⟨hL1, hL2⟩ := h.pool.uni
  have hK1 := h.k1
  have hK2 := h.k2
  have hs1 := h.pool.sum
  have hC := hide (digest_conf d p K kd L l F w h)
  have hN := hide (fun W (hW : Below w.heap.size w W) => digest_n_same d p K kd L l F W (h.kept hW))
  have hNd := hide (fun W (hW : Below w.heap.size w W) => digest_nodes d p K kd L l F W (h.kept hW))
  have hall := hide h.pool.allU
  have hids : Hid (∀ i, i < l.length → (l.map (·.1)).getD i 0 ≤ 9223372036854775807) := fun i hi => by
    have := h.pool.allU _ (List.getElem_mem hi)
    rw [List.getD_eq_getElem?_getD, List.getElem?_eq_getElem (by simpa using hi)]
    simp; omega
  have hcts : Hid (∀ i, i < l.length → (l.map (·.2)).getD i 0 ≤ 9223372036854775807) := fun i hi => by
    have := h.pool.allU _ (List.getElem_mem hi)
    rw [List.getD_eq_getElem?_getD, List.getElem?_eq_getElem (by simpa using hi)]
    simp; omega
  have hs0 := sumL_nonneg l h.pool.canon.cntL
  clear h
  have hfin : Hid (rawS L K l = ((((⟨#[68, 87, 80, 1]⟩ : ByteArray) ++ ⟨#[UInt8.ofNat L.toNat]⟩) ++ headS K (sumL l)) ++ idsS l) ++ cntsS l) := rfl
  generalize rawS L K l = RW at *
  generalize sumL l = S at *
  obtain ⟨n, hn⟩ : ∃ n, Hid (l.length = n) := ⟨_, rfl⟩
  rw [hn.out] at hln
  unfold conf at hC
  go_enter Tryz.func9, Tryz.ntmps9
  go_wp2_with fail
  refine Calls.mono hC.out ?_
  rintro e w1 ⟨rfl, hb1⟩
  have bC := Blk.made w1 42 #[.int .i64 L, .int .i64 K, .int .i64 kd]
  have hb2 := hide (hb1.trans ((balloc0 w1 (.cells #[.int .i64 L, .int .i64 K, .int .i64 kd] 42)).mono hb1.size))
  go_wp2_with fail
  obtain ⟨cb, hcb⟩ : ∃ cb, Hid (w1.heap.size = cb) := ⟨_, rfl⟩
  rw [hcb.out] at bC
  have bC := hide bC
  refine Calls.mono (hNd.out _ hb2.out) ?_
  rintro e w3 ⟨v3, rfl, hv3, hb3⟩
  rw [hn.out] at hv3
  obtain ⟨A, c, rfl, hA1, hA2, hA3⟩ := own_form hv3
  have hv3 := hide (own_dn hb2.out.size hv3)
  have bC3 := hide (bC.out.kept hb3)
  have hb3 := hide (hb2.out.trans (hb3.mono hb2.out.size))
  have hst : Hid (GatAt w w3 cb L K kd A c n l 0 (.slice none 0 0) (.slice none 0 0)) :=
    ⟨hv3.out, bC3.out, by rw [List.take_zero]; exact World.ownsRow_nil _ _ _ _, by rw [List.take_zero]; exact World.ownsRow_nil _ _ _ _, (fun j hj => by cases hj), hb3.out⟩
  clear hv3 bC3 bC hb1 hb2
  go_wp2_with fail
  rw [hcb.out]
  go_loopw [5, 6, 22] (fun u v kv wr => ∃ i : Nat, kv = .int .i64 i ∧ i ≤ n ∧ Hid (GatAt w wr cb L K kd A c n l i u v)) (fun _ _ kv _ => n - (intOf kv).toNat)
  case atStart => exact ⟨0, rfl, by omega, hst⟩
  case round =>
    obtain ⟨i, rfl, hi, hs⟩ := hrel
    clear hst hb3
    by_cases hlt : i < n
    · have hil : i < l.length := by rw [hn.out]; exact hlt
      have hro := hs.out.row
      rw [← hn.out] at hro
      obtain ⟨g, cap, e1, hg, cx, cn⟩ := nd_at hro hil
      injection e1 with e1 e2 e3
      subst e1 e3
      have hal := hall.out _ (List.getElem_mem hil)
      obtain ⟨id, hid⟩ : ∃ id, Hid (l[i].1 = id) := ⟨l[i].1, hide rfl⟩
      obtain ⟨cnt, hcnt⟩ : ∃ cnt, Hid (l[i].2 = cnt) := ⟨l[i].2, hide rfl⟩
      rw [hid.out] at cx hal
      rw [hcnt.out] at cn hal
      clear hro
      go_wp2_with fail
      have hs1 := hide (hs.out.kept (balloc0 wr (.cells #[.int .i64 id, .int .i64 cnt] 67)))
      have bN := Blk.made wr 67 #[.int .i64 id, .int .i64 cnt]
      have z0 := bN.cell 0
      have z1 := bN.cell 1
      have z2 := bN.lt
      obtain ⟨xb, hxb⟩ : ∃ xb, wr.heap.size = xb := ⟨_, rfl⟩
      rw [hxb] at z0 z1 z2 bN ⊢
      have hlu : ∀ j, Value.ownBlock _ = some j → j < wr.heap.size := fun j hj => (hs.out.ids.lt j hj).2
      have hlv : ∀ j, Value.ownBlock _ = some j → j < wr.heap.size := fun j hj => (hs.out.cnts.lt j hj).2
      have hx1 : Value.ownBlock _ ≠ some xb := fun k => by have := hlu xb k; omega
      have hx2 : Value.ownBlock _ ≠ some xb := fun k => by have := hlv xb k; omega
      have hz5 := hs1.out.bel.size
      generalize (wr.alloc (.cells #[.int .i64 id, .int .i64 cnt] 67)) = w5 at *
      have nu : ∀ k, w5.heap.size ≤ k → Value.ownBlock _ ≠ some k := fun k hk e => by have := hlu k e; omega
      have nv : ∀ k, w5.heap.size ≤ k → Value.ownBlock _ ≠ some k := fun k hk e => by have := hlv k e; omega
      have nu := hide nu
      have nv := hide nv
      clear hxb hlu hlv
      have how1 := hs1.out.ids
      have how2 := hs1.out.cnts
      have apA := hs1.out.apart
      have apB := fun j e k => hs1.out.apart j k e
      go_region_held_law (fun w' => w'.cell? ⟨xb, 0, none⟩ = some (.int .i64 id) ∧ w'.cell? ⟨xb, 1, none⟩ = some (.int .i64 cnt))
        (first
          | go_keep
          | (go_split_ands
             refine ⟨?_, ?_⟩
             all_goals (first
               | (rw [hgA.cell_far _ (by simp; omega) (Ne.symm hx1)]; assumption)
               | (rw [hgB.cell_far _ (by simp; omega) (Ne.symm hx2)]; assumption)
               | (rw [hgA.cell_far _ (by have q := hgB.size; simp at q ⊢; omega) (Ne.symm hx1)]; assumption)
               | (rw [hgB.cell_far _ (by have q := hgA.size; simp at q ⊢; omega) (Ne.symm hx2)]; assumption))))
        (first
          | (refine step_int (some 30) (by rfl) (by rfl) _ _ rfl w.heap.size u5 i _ rfl (by first | exact (how1.alloc _).drew | exact ((how1.alloc _).alloc _).drew | exact own_apart ((how1.alloc _).alloc _).drew hgB apA | exact (own_apart (how1.alloc _).drew hgB apA).alloc _) _ id rfl (by first | exact (Blk.made w5 _ _).drew | exact ((Blk.made w5 _ _).alloc _).drew | exact (Blk.made_at (w5.alloc _) _ _ (by simp)).drew | exact blk_grown ((Blk.made w5 _ _).alloc _).drew hgB (nv.out _ (by omega)) | exact blk_grown (Blk.made_at (w5.alloc _) _ _ (by simp)).drew hgB (nv.out _ (by omega)) | exact Blk.made _ _ _) (by omega) (by first | (simp; omega) | (have q := hgA.size; simp at q ⊢; omega) | (have q := hgB.size; simp at q ⊢; omega)) ?_; intro ga ca wa hA hgA hatA)
          | (refine step_int (some 35) (by rfl) (by rfl) _ _ rfl w.heap.size u6 i _ rfl (by first | exact (how2.alloc _).drew | exact ((how2.alloc _).alloc _).drew | exact own_apart ((how2.alloc _).alloc _).drew hgA apB | exact (own_apart (how2.alloc _).drew hgA apB).alloc _) _ cnt rfl (by first | exact (Blk.made w5 _ _).drew | exact ((Blk.made w5 _ _).alloc _).drew | exact (Blk.made_at (w5.alloc _) _ _ (by simp)).drew | exact blk_grown ((Blk.made w5 _ _).alloc _).drew hgA (nu.out _ (by omega)) | exact blk_grown (Blk.made_at (w5.alloc _) _ _ (by simp)).drew hgA (nu.out _ (by omega)) | exact Blk.made _ _ _) (by omega) (by first | (simp; omega) | (have q := hgA.size; simp at q ⊢; omega) | (have q := hgB.size; simp at q ⊢; omega)) ?_; intro gb cb2 wb hB hgB hatB))
      all_goals
        go_wp2_with fail
        go_roundw
        case rel =>
          refine ⟨i + 1, by go_num, by omega, ?_⟩
          first
            | exact hs1.out.both1 hil hid.out hcnt.out (balloc0 _ _).drew hA hgA hatA (balloc0 _ _) hB hgB hatB
            | exact hs1.out.both1 hil hid.out hcnt.out (balloc (balloc0 _ _) _).drew hA hgA hatA (Below.refl _ _) hB hgB hatB
            | exact hs1.out.both2 hil hid.out hcnt.out (balloc0 _ _).drew hB hgB hatB (balloc0 _ _) hA hgA hatA
            | exact hs1.out.both2 hil hid.out hcnt.out (balloc (balloc0 _ _) _).drew hB hgB hatB (Below.refl _ _) hA hgA hatA
        case measure => simp [intOf]; omega
    · obtain rfl : i = n := by omega
      have hsK := hs.out
      obtain ⟨Au, cu, rfl, hu1, hu2, hu3⟩ := own_form hsK.ids
      obtain ⟨Av, cv, rfl, hv1, hv2, hv3⟩ := own_form hsK.cnts
      have ru : Rd wr Au i 1 (fun j => .int .i64 ((l.map (·.1)).getD j 0)) := (own_rd hsK.ids).congr fun j hj => by
        rw [← hn.out, List.take_length]
        rw [List.getD_eq_getElem?_getD, List.getElem?_map, List.getD_eq_getElem?_getD]
        have : j < (l.map (·.1)).length := by rw [List.length_map, hn.out]; omega
        rw [List.getElem?_eq_getElem this]; rfl
      have rv : Rd wr Av i 1 (fun j => .int .i64 ((l.map (·.2)).getD j 0)) := (own_rd hsK.cnts).congr fun j hj => by
        rw [← hn.out, List.take_length]
        rw [List.getD_eq_getElem?_getD, List.getElem?_map, List.getD_eq_getElem?_getD]
        have : j < (l.map (·.2)).length := by rw [List.length_map, hn.out]; omega
        rw [List.getElem?_eq_getElem this]; rfl
      have hR := hide (fun W (hW : Below wr.heap.size wr W) => vary_rises Au i cu (fun j => (l.map (·.1)).getD j 0) W (ru.kept hW) (by omega) (by have := hids.out; rw [hn.out] at this; exact this))
      have hP := hide (fun W (hW : Below wr.heap.size wr W) => vary_put Av i cv (fun j => (l.map (·.2)).getD j 0) W (rv.kept hW) (by omega) (by have := hcts.out; rw [hn.out] at this; exact this))
      have z1 : (idsS l).size ≤ 9 * i + 9 := by unfold idsS; rw [hn.out]; exact risF_size (by omega) (by have := hids.out; rw [hn.out] at this; exact this)
      have z2 : (cntsS l).size ≤ 9 * i := by unfold cntsS; rw [hn.out]; exact putF_size (by have := hcts.out; rw [hn.out] at this; exact this)
      have hKS : ∀ j, j < 2 → (fun j => ([K, S] : List Int).getD j 0) j ≤ 9223372036854775807 := fun j hj => by
        match j, hj with
        | 0, _ => simp; omega
        | 1, _ => simp; omega
      have z3 : (headS K S).size ≤ 18 := putF_size hKS
      have e1 : Hid ((risF (fun j => (l.map (·.1)).getD j 0) i).1 = idsS l) := by show _ = _; unfold idsS; rw [hn.out]
      have e2 : Hid ((putF (fun j => (l.map (·.2)).getD j 0) i).1 = cntsS l) := by show _ = _; unfold cntsS; rw [hn.out]
      have hB2 : Blk (wr.alloc (.cells #[.int .i64 K, .int .i64 S] 3)) wr.heap.size 3 #[.int .i64 K, .int .i64 S] := Blk.made _ _ _
      have hQ := hide (vary_put (some ⟨wr.heap.size, 0, none⟩) 2 2 (fun j => ([K, S] : List Int).getD j 0) (wr.alloc (.cells #[.int .i64 K, .int .i64 S] 3)).drew (Rd.of_blk hB2.drew 0 (by simp) (fun j hj => by
        match j, hj with
        | 0, _ => rfl
        | 1, _ => rfl)) (by omega) hKS)
      rw [e1.out] at hR
      rw [e2.out] at hP
      rw [show (putF (fun j => ([K, S] : List Int).getD j 0) 2).1 = headS K S from rfl] at hQ
      generalize (risF (fun j => (l.map (·.1)).getD j 0) i).2 = y1 at *
      generalize (putF (fun j => (l.map (·.2)).getD j 0) i).2 = y2 at *
      generalize (putF (fun j => ([K, S] : List Int).getD j 0) 2).2 = y3 at *
      generalize idsS l = I1 at *
      generalize cntsS l = I2 at *
      generalize headS K S = I3 at *
      have q0 := hsK.conf.cell 0
      have q1 := hsK.conf.cell 1
      have q2 := hsK.conf.lt
      have hcf := hide hsK.conf
      have hNw := hide (hN.out wr hsK.bel)
      have hNd2 := hide (hN.out wr.drew hsK.bel.drew)
      have hbel := hide hsK.bel
      clear ru rv hKS hs hsK hB2 hu1 hu2 hu3 hv1 hv2 hv3 hN hNd
      go_wp2_with fail
      go_region_with (first
        | (go_at_call 30; (with_reducible refine hNd2.out.mono ?_); rintro e w7 ⟨rfl, rfl⟩)
        | (go_at_call 30; (with_reducible refine hNw.out.mono ?_); rintro e w7 ⟨rfl, rfl⟩)
        | (go_at_call 29; (with_reducible refine hQ.out.mono ?_); rintro e w8 ⟨rfl, hb8⟩; have hb8 := hide hb8))
      all_goals
        have hb9 := hide (((balloc0 wr (.cells #[.int .i64 K, .int .i64 S] 3)).drew).trans (hb8.out.mono (by simp)))
        clear q0 q1 q2 hb8
        go_wp2_with fail
        refine Calls.mono (hR.out _ hb9.out) ?_
        rintro e w10 ⟨rfl, hb10⟩
        have hb10 := hide (hb9.out.trans (hb10.mono hb9.out.size))
        go_wp2_with fail
        refine Calls.mono (hP.out _ hb10.out) ?_
        rintro e w12 ⟨rfl, hb12⟩
        have hb12 := hide (hb10.out.trans (hb12.mono hb10.out.size))
        have hcf12 := hcf.out.kept hb12.out
        have q0 := hcf12.cell 0
        have q2 := hcf12.lt
        have hbt := byte_text w12 L (by omega) (by omega)
        have hL256 : L % 256 = L := by omega
        have hz12 := hb12.out.size
        have hb13 := hide (hbel.out.trans ((hb12.out.trans ((balloc0 w12 (.cells #[.int .u8 L] 5)).mono hz12)).mono hbel.out.size))
        have hsz : RW.size ≤ 1000000 := by
          rw [hfin.out, ByteArray.size_append, ByteArray.size_append, ByteArray.size_append, ByteArray.size_append]
          show 4 + 1 + _ + _ + _ ≤ _
          omega
        have k1 : (⟨#[68, 87, 80, 1]⟩ : ByteArray).size + (⟨#[UInt8.ofNat L.toNat]⟩ : ByteArray).size ≤ 9223372036854775807 := by show 4 + 1 ≤ _; omega
        have k2 : ((⟨#[68, 87, 80, 1]⟩ : ByteArray) ++ ⟨#[UInt8.ofNat L.toNat]⟩).size + I3.size ≤ 9223372036854775807 := by rw [ByteArray.size_append]; show 4 + 1 + _ ≤ _; omega
        have k3 : (((⟨#[68, 87, 80, 1]⟩ : ByteArray) ++ ⟨#[UInt8.ofNat L.toNat]⟩) ++ I3).size + I1.size ≤ 9223372036854775807 := by rw [ByteArray.size_append, ByteArray.size_append]; show 4 + 1 + _ + _ ≤ _; omega
        have k4 : ((((⟨#[68, 87, 80, 1]⟩ : ByteArray) ++ ⟨#[UInt8.ofNat L.toNat]⟩) ++ I3) ++ I1).size + I2.size ≤ 9223372036854775807 := by rw [ByteArray.size_append, ByteArray.size_append, ByteArray.size_append]; show 4 + 1 + _ + _ + _ ≤ _; omega
        have hSe := hide (seal_seal RW (w12.alloc (.cells #[.int .u8 L] 5)) (by omega))
        rw [hfin.out] at hSe
        clear hR hP hQ hb9 hb10
        go_wp2_with fail
        refine Calls.mono hSe.out ?_
        rintro e w14 ⟨rfl, hb14⟩
        have hb14 := hide (hb13.out.trans (hb14.mono hb13.out.size))
        go_wp2_with fail
        go_ret2
        exact ⟨by rw [hfin.out]; rfl, hb14.out⟩
end Go.Proofs.YteebghoijaaakaaGreat
