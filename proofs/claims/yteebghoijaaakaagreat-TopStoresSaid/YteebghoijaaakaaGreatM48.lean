/- Part 48 of the proof: texts joined by this repo's tools/merge2.py (CwdC StrE). By the prover of this repo. -/
import Derived.Test.YteebghoijaaakaaGreatM25
import Derived.Test.YteebghoijaaakaaGreatM36
import Derived.Test.YteebghoijaaakaaGreatM13
import Derived.Test.YteebghoijaaakaaGreatM33
set_option linter.unusedVariables false
set_option linter.unusedSimpArgs false
/- Several digests while they are begun, one behind the other. By the prover of this repo. -/
namespace Go.Proofs.YteebghoijaaakaaGreat
namespace CW
open Go.RowKit
open TwigM RollM StoM TopM

/-- The kind of the digest at a place. -/
def wayF (q : Int) (j : Nat) : Int := 1 + (q + j) % 2
theorem way_kd (q : Int) (j : Nat) : Kd (wayF q j) := by
  unfold Kd wayF
  omega
def ptrs (d : Nat → Nat) (n : Nat) : List Value := (List.range n).map fun j => .pointer (some ⟨d j, 0, none⟩)
def bagsV (L : Int) (n : Nat) : List Value := (List.range n).flatMap fun _ => [.int .i64 L, .slice none 0 0]
theorem ptrs_succ (d : Nat → Nat) (n : Nat) : ptrs d (n + 1) = ptrs d n ++ [.pointer (some ⟨d n, 0, none⟩)] := by unfold ptrs; rw [List.range_succ, List.map_append]; rfl
theorem bags_succ (L : Int) (n : Nat) : bagsV L (n + 1) = bagsV L n ++ [.int .i64 L, .slice none 0 0] := by unfold bagsV; rw [List.range_succ, List.flatMap_append]; simp
theorem ptrs_up (d : Nat → Nat) (n x : Nat) : ptrs (up d n x) n = ptrs d n := by
  unfold ptrs
  refine List.map_congr_left fun j hj => ?_
  have := List.mem_range.1 hj
  rw [up_other _ _ (by omega)]
theorem ptrs_get (d : Nat → Nat) {n j : Nat} (h : j < n) : (ptrs d n)[j]? = some (.pointer (some ⟨d j, 0, none⟩)) := by unfold ptrs; simp [h]
theorem bags_get (L : Int) : ∀ {n j : Nat}, j < n → (bagsV L n)[j * 2]? = some (.int .i64 L) ∧ (bagsV L n)[j * 2 + 1]? = some (.slice none 0 0)
  | n + 1, j, h => by
    have hl : (bagsV L n).length = n * 2 := by
      clear h
      induction n with
      | zero => rfl
      | succ n ih => rw [bags_succ, List.length_append, ih]; simp; omega
    rw [bags_succ]
    by_cases e : j < n
    · have := bags_get L e
      rw [List.getElem?_append_left (by omega), List.getElem?_append_left (by omega)]
      exact this
    · obtain rfl : j = n := by omega
      rw [List.getElem?_append_right (by omega), List.getElem?_append_right (by omega), hl]
      simp
/-- Several digests, of which so many are in both rows. -/
structure Beg (w wr : World) (L q : Int) (ks : List Int) (i nu nz : Nat) (u z : Value) (d p : Nat → Nat) (Fs : Nat → Nat → Prop) : Prop where
  blk : Blk wr w.heap.size 36 #[.int .i64 L, u, z]
  du : wr.ownsRow (w.heap.size + 1) 40 1 u nu (ptrs d nu)
  dz : wr.ownsRow (w.heap.size + 1) 53 2 z nz (bagsV L nz)
  dig : ∀ j, j < i → DigAt wr (d j) (p j) (ks.getD j 0) (wayF q j) L [] (Fs j)
  low : ∀ j, j < i → w.heap.size + 1 ≤ d j ∧ w.heap.size + 1 ≤ p j ∧ ∀ b, Fs j b → w.heap.size + 1 ≤ b
  own : ∀ j, j < i → ∀ b, (u.ownBlock = some b ∨ z.ownBlock = some b) → b ≠ d j ∧ b ≠ p j ∧ ¬ Fs j b
  uz : ∀ b, u.ownBlock = some b → z.ownBlock ≠ some b
  sep : ∀ j k, j < i → k < i → ¬ Fs k (d j) ∧ ¬ Fs k (p j)
  disj : ∀ j k, j < i → k < i → j ≠ k → ∀ b, Fs j b → ¬ Fs k b
  bel : Below w.heap.size w wr
  le : nu ≤ i
section
variable {w wr w' : World} {L q : Int} {ks : List Int} {i nu nz : Nat} {u z : Value} {d p : Nat → Nat} {Fs : Nat → Nat → Prop}
theorem Beg.ulow (h : Beg w wr L q ks i nu nz u z d p Fs) : ∀ b, u.ownBlock = some b → w.heap.size + 1 ≤ b ∧ b < wr.heap.size := fun b hb => h.du.lt b hb
theorem Beg.zlow (h : Beg w wr L q ks i nu nz u z d p Fs) : ∀ b, z.ownBlock = some b → w.heap.size + 1 ≤ b ∧ b < wr.heap.size := fun b hb => h.dz.lt b hb
theorem Beg.kept (h : Beg w wr L q ks i nu nz u z d p Fs) (b : Below wr.heap.size wr w') : Beg w w' L q ks i nu nz u z d p Fs :=
  ⟨h.blk.kept b, own_turnedB h.du (Below.turn b fun _ => False) (fun _ _ q => q), own_turnedB h.dz (Below.turn b fun _ => False) (fun _ _ q => q), fun j hj => (h.dig j hj).kept b, h.low, h.own, h.uz, h.sep, h.disj, h.bel.trans (b.mono h.bel.size), h.le⟩
/-- One more digest. -/
theorem Beg.more (h : Beg w wr L q ks i nu nz u z d p Fs) (b : Below wr.heap.size wr w') {d' p' : Nat} {F' : Nat → Prop} (h1 : DigAt w' d' p' (ks.getD i 0) (wayF q i) L [] F') (g1 : wr.heap.size ≤ d') (g2 : wr.heap.size ≤ p') (g3 : ∀ j, F' j → wr.heap.size ≤ j) (hnu : nu = i) :
    Beg w w' L q ks (i + 1) nu nz u z (up d i d') (up p i p') (up Fs i F') := by
  have hk := h.kept b
  have hz : w.heap.size + 1 ≤ wr.heap.size := by have := h.blk.lt; omega
  have hul := h.ulow
  have hzl := h.zlow
  have hdl := fun j hj => (h.dig j hj).lt
  subst hnu
  refine ⟨hk.blk, by rw [ptrs_up]; exact hk.du, hk.dz, fun j hj => ?_, fun j hj => ?_, fun j hj b' hb' => ?_, h.uz, fun j k hj hkk => ?_, fun j k hj hkk hne b' hb' => ?_, hk.bel, by omega⟩
  · by_cases e : j = nu
    · subst e; rw [up_same, up_same, up_same]; exact h1
    · rw [up_other _ _ e, up_other _ _ e, up_other _ _ e]; exact hk.dig j (by omega)
  · by_cases e : j = nu
    · subst e
      rw [up_same, up_same, up_same]
      exact ⟨by omega, by omega, fun b' hb' => by have := g3 b' hb'; omega⟩
    · rw [up_other _ _ e, up_other _ _ e, up_other _ _ e]
      exact h.low j (by omega)
  · by_cases e : j = nu
    · subst e
      rw [up_same, up_same, up_same]
      have : b' < wr.heap.size := by
        rcases hb' with q | q
        · exact (hul b' q).2
        · exact (hzl b' q).2
      exact ⟨by omega, by omega, fun hF => by have := g3 b' hF; omega⟩
    · rw [up_other _ _ e, up_other _ _ e, up_other _ _ e]
      exact h.own j (by omega) b' hb'
  · by_cases e1 : j = nu
    · by_cases e2 : k = nu
      · subst e1
        rw [e2, up_same, up_same, up_same]
        exact ⟨h1.ndF, h1.pool.out⟩
      · subst e1
        rw [up_same, up_same, up_other _ _ e2]
        have := (hdl k (by omega)).2.2
        exact ⟨fun hF => by have := this _ hF; omega, fun hF => by have := this _ hF; omega⟩
    · by_cases e2 : k = nu
      · rw [e2, up_same, up_other _ _ e1, up_other _ _ e1]
        have := hdl j (by omega)
        exact ⟨fun hF => by have := g3 _ hF; omega, fun hF => by have := g3 _ hF; omega⟩
      · rw [up_other _ _ e1, up_other _ _ e1, up_other _ _ e2]
        exact h.sep j k (by omega) (by omega)
  · by_cases e1 : j = nu
    · have e2 : k ≠ nu := by omega
      rw [e1, up_same] at hb'
      rw [up_other _ _ e2]
      intro hF
      have := (hdl k (by omega)).2.2 b' hF
      have := g3 b' hb'
      omega
    · rw [up_other _ _ e1] at hb'
      by_cases e2 : k = nu
      · rw [e2, up_same]
        intro hF
        have := (hdl j (by omega)).2.2 b' hb'
        have := g3 b' hF
        omega
      · rw [up_other _ _ e2]
        exact h.disj j k (by omega) (by omega) hne b' hb'
/-- One row is longer. -/
theorem Beg.pushU (h : Beg w wr L q ks i nu nz u z d p Fs) {u' : Value} (how : w'.ownsRow (w.heap.size + 1) 40 1 u' (nu + 1) (ptrs d nu ++ [.pointer (some ⟨d nu, 0, none⟩)])) (hg : wr.grownBy w' u.ownBlock) (hat : u'.ownBlock = u.ownBlock ∨ u'.ownBlock = some (wr.heap.size + 1)) (hle : nu + 1 ≤ i) :
    Beg w (w'.setCell ⟨w.heap.size, 1, none⟩ u') L q ks i (nu + 1) nz u' z d p Fs := by
  have hz : w.heap.size + 1 ≤ wr.heap.size := by have := h.blk.lt; omega
  have hul := h.ulow
  have hzl := h.zlow
  have t1 : Turn (fun b => u.ownBlock = some b) wr w' := SH.turn_grown (fun b => u.ownBlock = some b) _ hg fun _ e => e
  have t2 : Turn (fun b => b = w.heap.size ∨ u.ownBlock = some b) wr (w'.setCell ⟨w.heap.size, 1, none⟩ u') := (t1.more fun _ _ e => .inr e).trans (Turn.setCell w' (fun b => b = w.heap.size ∨ u.ownBlock = some b) ⟨w.heap.size, 1, none⟩ u' (.inl rfl)) fun _ _ e => e
  have hb1 := h.blk.turned t1 fun e => by have := (hul _ e).1; omega
  refine ⟨?_, ?_, own_turnedB h.dz t2 ?_, fun j hj => ?_, h.low, fun j hj b hb => ?_, fun b hb => ?_, h.sep, h.disj, ?_, hle⟩
  · have := hb1.set 1 u'
    simpa using this
  · rw [ptrs_succ]
    exact own_turnedB how (Turn.setCell w' (fun b => b = w.heap.size) ⟨w.heap.size, 1, none⟩ u' rfl) fun b hb e => by have := (how.lt b hb).1; omega
  · intro b hb e
    rcases e with e | e
    · have := (hzl b hb).1; omega
    · exact h.uz b e hb
  · have hd := h.low j hj
    refine ⟨(h.dig j hj).blk.turned t2 ?_, (h.dig j hj).pool.turned t2 ?_ ?_, (h.dig j hj).ndp, (h.dig j hj).ndF, (h.dig j hj).k1, (h.dig j hj).k2⟩
    · rintro (e | e)
      · omega
      · exact (h.own j hj _ (.inl e)).1 rfl
    · rintro (e | e)
      · omega
      · exact (h.own j hj _ (.inl e)).2.1 rfl
    · intro b hb e
      rcases e with e | e
      · have := hd.2.2 b hb; omega
      · exact (h.own j hj b (.inl e)).2.2 hb
  · rcases hb with hb | hb
    · rcases hat with e | e
      · rw [e] at hb
        exact h.own j hj b (.inl hb)
      · rw [e] at hb
        have hbe : wr.heap.size + 1 = b := Option.some.inj hb
        have := (h.dig j hj).lt
        exact ⟨by omega, by omega, fun hF => by have := this.2.2 b hF; omega⟩
    · exact h.own j hj b (.inr hb)
  · rcases hat with e | e
    · rw [e] at hb
      exact h.uz b hb
    · rw [e] at hb
      have hbe : wr.heap.size + 1 = b := Option.some.inj hb
      intro hb2
      have := (hzl b hb2).2
      omega
  · exact h.bel.trans (t2.below w.heap.size h.bel.size fun j hj e => by
      rcases e with e | e
      · omega
      · have := (hul j e).1; omega)
/-- The other row is longer. -/
theorem Beg.pushZ (h : Beg w wr L q ks i nu nz u z d p Fs) {z' : Value} (how : w'.ownsRow (w.heap.size + 1) 53 2 z' (nz + 1) (bagsV L nz ++ [.int .i64 L, .slice none 0 0])) (hg : wr.grownBy w' z.ownBlock) (hat : z'.ownBlock = z.ownBlock ∨ z'.ownBlock = some (wr.heap.size + 1)) :
    Beg w (w'.setCell ⟨w.heap.size, 2, none⟩ z') L q ks i nu (nz + 1) u z' d p Fs := by
  have hz : w.heap.size + 1 ≤ wr.heap.size := by have := h.blk.lt; omega
  have hul := h.ulow
  have hzl := h.zlow
  have t1 : Turn (fun b => z.ownBlock = some b) wr w' := SH.turn_grown (fun b => z.ownBlock = some b) _ hg fun _ e => e
  have t2 : Turn (fun b => b = w.heap.size ∨ z.ownBlock = some b) wr (w'.setCell ⟨w.heap.size, 2, none⟩ z') := (t1.more fun _ _ e => .inr e).trans (Turn.setCell w' (fun b => b = w.heap.size ∨ z.ownBlock = some b) ⟨w.heap.size, 2, none⟩ z' (.inl rfl)) fun _ _ e => e
  have hb1 := h.blk.turned t1 fun e => by have := (hzl _ e).1; omega
  refine ⟨?_, own_turnedB h.du t2 ?_, ?_, fun j hj => ?_, h.low, fun j hj b hb => ?_, fun b hb => ?_, h.sep, h.disj, ?_, h.le⟩
  · have := hb1.set 2 z'
    simpa using this
  · intro b hb e
    rcases e with e | e
    · have := (hul b hb).1; omega
    · exact h.uz b hb e
  · rw [bags_succ]
    exact own_turnedB how (Turn.setCell w' (fun b => b = w.heap.size) ⟨w.heap.size, 2, none⟩ z' rfl) fun b hb e => by have := (how.lt b hb).1; omega
  · have hd := h.low j hj
    refine ⟨(h.dig j hj).blk.turned t2 ?_, (h.dig j hj).pool.turned t2 ?_ ?_, (h.dig j hj).ndp, (h.dig j hj).ndF, (h.dig j hj).k1, (h.dig j hj).k2⟩
    · rintro (e | e)
      · omega
      · exact (h.own j hj _ (.inr e)).1 rfl
    · rintro (e | e)
      · omega
      · exact (h.own j hj _ (.inr e)).2.1 rfl
    · intro b hb e
      rcases e with e | e
      · have := hd.2.2 b hb; omega
      · exact (h.own j hj b (.inr e)).2.2 hb
  · rcases hb with hb | hb
    · exact h.own j hj b (.inl hb)
    · rcases hat with e | e
      · rw [e] at hb
        exact h.own j hj b (.inr hb)
      · rw [e] at hb
        have hbe : wr.heap.size + 1 = b := Option.some.inj hb
        have := (h.dig j hj).lt
        exact ⟨by omega, by omega, fun hF => by have := this.2.2 b hF; omega⟩
  · intro hb2
    rcases hat with e | e
    · rw [e] at hb2
      exact h.uz b hb hb2
    · rw [e] at hb2
      have hbe : wr.heap.size + 1 = b := Option.some.inj hb2
      have := (hul b hb).2
      omega
  · exact h.bel.trans (t2.below w.heap.size h.bel.size fun j hj e => by
      rcases e with e | e
      · omega
      · have := (hzl j e).1; omega)
/-- All are begun. -/
theorem Beg.crowd {n : Nat} (h : Beg w wr L q ks n n n u z d p Fs) (hn : 1 ≤ n) :
    ∃ gd gb cd cb, CrowdX wr w.heap.size gd gb n cd cb L (wayF q) (fun j => (ks.getD j 0, ([], []))) d p (fun _ => .slice none 0 0) Fs ∧ w.heap.size ≤ gd ∧ w.heap.size ≤ gb := by
  obtain ⟨_, h2⟩ := h.du
  obtain ⟨_, g2⟩ := h.dz
  rcases h2 with ⟨rfl, e⟩ | ⟨gd, cd, cur, rfl, hb1, hc1, -, -, hcd⟩
  · omega
  rcases g2 with ⟨rfl, e⟩ | ⟨gb, cb, cur2, rfl, hb2, hc2, -, -, hcd2⟩
  · omega
  refine ⟨gd, gb, cd, cb, ⟨h.blk, ⟨cur, hc1, fun j hj => ?_⟩, ⟨cur2, hc2, fun j hj => ?_⟩, h.dig, fun j _ => Nds.nil _, (fun j _ b hb => by cases hb), ⟨by omega, by omega, (fun e => by subst e; exact h.uz gd rfl rfl), fun k hk => ⟨fun hF => by have := (h.low k hk).2.2 _ hF; omega, fun hF => (h.own k hk gd (.inl rfl)).2.2 hF, fun hF => (h.own k hk gb (.inr rfl)).2.2 hF⟩⟩,
    fun j hj => ⟨Ne.symm (h.own j hj gd (.inl rfl)).1, Ne.symm (h.own j hj gb (.inr rfl)).1, Ne.symm (h.own j hj gd (.inl rfl)).2.1, Ne.symm (h.own j hj gb (.inr rfl)).2.1⟩, h.sep, h.disj⟩, by omega, by omega⟩
  · have h1 := ptrs_get d hj
    rw [← hcd.2, List.getElem?_take_of_lt (by omega), Array.getElem?_toList] at h1
    exact h1
  · obtain ⟨h1, h2⟩ := bags_get L hj
    rw [← hcd2.2, List.getElem?_take_of_lt (by omega), Array.getElem?_toList] at h1 h2
    exact ⟨h1, h2⟩
end
end CW
end Go.Proofs.YteebghoijaaakaaGreat
/- The law TopStores: digests are begun. By the prover of this repo. -/
namespace Go.Proofs.YteebghoijaaakaaGreat
namespace CW
open Go.RowKit
open TwigM RollM StoM TopM

theorem elDig : Elem Tryz.prog 33 40 (.pointer none) 1 8 := ⟨Tryz.underlying33, by kernel_rfl, rfl, by omega⟩
theorem elBag : Elem Tryz.prog 34 53 (.agg #[.int .i64 0, .slice none 0 0]) 2 32 := ⟨Tryz.underlying34, by kernel_rfl, rfl, by omega⟩
/-- May a digest be of that k? -/
def KOk (k : Int) : Prop := 1 ≤ k ∧ k ≤ 1048576
set_option maxRecDepth 100000 in
set_option maxHeartbeats 4000000 in
theorem begun_c (L q : Int) (A : Option Addr) (ca : Nat) (ks : List Int) (w : World) (hL1 : 1 ≤ L) (hL : L ≤ 10) (hq : 0 ≤ q ∧ q ≤ 1) (hr : Rd w A ks.length 1 fun j => .int .i64 (ks.getD j 0)) (hn1 : 1 ≤ ks.length) (hn : ks.length ≤ 5) (hwf : ∀ k ∈ ks, -9223372036854775808 ≤ k ∧ k ≤ 9223372036854775807) :
    Calls Tryz.prog 6 #[.int .i64 L, .slice A ks.length ca, .int .i64 q] w fun e w' => Below w.heap.size w w' ∧
      ((e = .returned (.tuple #[.pointer (some ⟨w.heap.size, 0, none⟩), .bool true]) ∧ (∀ k ∈ ks, KOk k) ∧ ∃ u z d p Fs, Beg w w' L q ks ks.length ks.length ks.length u z d p Fs) ∨
        e = .returned (.tuple #[.pointer none, .bool false])) := by
  have hN := hide (fun (K : Int) (j : Nat) (W : World) (h : KOk K) => digest_new L K (wayF q j) W (by
    have h1 := way_kd q j
    unfold confB kindB
    unfold KOk at h
    rcases h1 with e | e <;> rw [e] <;> simp <;> omega))
  have hNo := hide (fun (K : Int) (j : Nat) (W : World) (h : ¬ KOk K) => digest_new_no L K (wayF q j) W (by
    unfold confB
    unfold KOk at h
    by_cases e1 : 1 ≤ K
    · by_cases e2 : K ≤ 1048576
      · omega
      · simp [e2]
    · simp [e1]))
  unfold conf at hN hNo
  have hst : Hid (Beg w (w.alloc (.cells #[.int .i64 L, .slice none 0 0, .slice none 0 0] 36)) L q ks 0 0 0 (.slice none 0 0) (.slice none 0 0) (fun _ => 0) (fun _ => 0) (fun _ _ => False)) :=
    ⟨Blk.made w _ _, World.ownsRow_nil _ _ _ _, World.ownsRow_nil _ _ _ _, fun j hj => by omega, fun j hj => by omega, fun j hj => by omega, (fun b hb => by cases hb), fun j k hj => by omega, fun j k hj => by omega, balloc0 w _, Nat.le_refl _⟩
  have hr0 := hide hr
  clear hr
  obtain ⟨n, hnn⟩ : ∃ n, Hid (ks.length = n) := ⟨_, rfl⟩
  rw [hnn.out] at hr0 hn hn1 ⊢
  go_enter Tryz.func6, Tryz.ntmps6
  go_wp2_with fail
  go_loopw [19] (fun kv wr => ∃ (i : Nat) (u z : Value) (d p : Nat → Nat) (Fs : Nat → Nat → Prop), kv = .int .i64 i ∧ i ≤ n ∧ Hid (Beg w wr L q ks i i i u z d p Fs) ∧ Hid (∀ k ∈ ks.take i, KOk k)) (fun kv _ => n - (intOf kv).toNat)
  case atStart => exact ⟨0, _, _, _, _, _, rfl, by omega, hst, fun k hk => by simp at hk⟩
  case round =>
    obtain ⟨i, u, z, d, p, Fs, rfl, hi, hB, hok⟩ := hrel
    clear hst
    by_cases hlt : i < n
    · have hil : i < ks.length := by rw [hnn.out]; exact hlt
      have hrd := hr0.out.kept hB.out.bel
      obtain ⟨b, off, rfl, hb, hcc⟩ := hrd (by omega)
      have hci : wr.cell? ⟨b, off + i, none⟩ = some (.int .i64 (ks.getD i 0)) := hcc i (by omega)
      have hmem : ks.getD i 0 = ks[i] := by rw [List.getD_eq_getElem?_getD, List.getElem?_eq_getElem hil]; rfl
      have hkb := hwf _ (List.getElem_mem hil)
      rw [← hmem] at hkb
      have htk : Hid (∀ k ∈ ks.take (i + 1), k ∈ ks.take i ∨ k = ks.getD i 0) := fun k hk => by
        rw [List.take_succ_eq_append_getElem hil, List.mem_append, List.mem_singleton] at hk
        rw [hmem]
        exact hk
      have hmore := hide (fun w2 (b : Below wr.heap.size wr w2) d' p' F' (h1 : DigAt w2 d' p' (ks.getD i 0) (wayF q i) L [] F') g1 g2 g3 => hB.out.more b h1 g1 g2 g3 rfl)
      have m1 := Int.lt_tmod_of_pos (q + i) (show (0 : Int) < 2 by omega)
      have m2 := Int.tmod_lt_of_pos (q + i) (show (0 : Int) < 2 by omega)
      have hle10 : ¬ (10 < L) := by omega
      clear hcc hmem
      generalize ks.getD i 0 = kv at *
      by_cases hko : KOk kv
      · have hN1 := hide (hN.out kv i wr hko)
        unfold wayF at hN1
        have hbel0 := hide hB.out.bel
        clear hNo hN hB
        go_wp2_with fail
        refine Calls.mono hN1.out ?_
        rintro e w2 ⟨d', p', F', rfl, h1, g1, g2, g3, hb2⟩
        have hB2 := hide (hmore.out w2 hb2 d' p' F' h1 g1 g2 g3)
        clear h1 g1 g2 g3 hb2 hci hb hmore hN1
        have x0 : w2.cell? ⟨w.heap.size, 1, none⟩ = some u := hB2.out.blk.cell 1
        have x1 := hB2.out.blk.lt
        have hz2 : w.heap.size + 1 ≤ w2.heap.size := x1
        go_wp2_with (first
          | (at_builtin; refine wpList_app1 elDig rfl (.tmp 49) (.tmp 51) rfl (w.heap.size + 1) _ _ _ [.pointer (some ⟨d', 0, none⟩)] 40 rfl hB2.out.du rfl rfl (one1 rfl) (by omega) hz2 ?_; intro u1 w3 how1 hb1 hgr1 hat1; replace hgr1 : w2.grownBy w3 u.ownBlock := hgr1; obtain ⟨A1, c1, rfl, -, -, -⟩ := own_form how1; have hB3 := hide (hB2.out.pushU (by rw [up_same]; exact how1) hgr1 hat1 (Nat.le_refl _)); have hk1 := hide (blk_other hB2.out.blk hB2.out.du hgr1 (by decide)); have y0 := hk1.out.lt; have y1 : w3.cell? ⟨w.heap.size, 1, none⟩ = some u := hk1.out.cell 1; have y2 := hk1.out.free 1; have y3 : w3.cell? ⟨w.heap.size, 2, none⟩ = some z := hk1.out.cell 2; clear how1 hb1 hgr1 hat1)
          | (at_builtin; refine wpList_app1 elBag rfl (.tmp 59) (.tmp 62) rfl (w.heap.size + 1) _ _ _ [.int .i64 L, .slice none 0 0] 53 rfl hB3.out.dz (show Value.slice (some ⟨w3.heap.size, 0, none⟩) 1 1 = .slice (some ⟨(w3.setCell ⟨w.heap.size, 1, none⟩ (.slice A1 (i + 1) c1)).heap.size, 0, none⟩) 1 1 from by simp) rfl (one2 rfl rfl) (by omega) (by simp; omega) ?_; intro u2 w5 how2 hb2 hgr2 hat2; replace hgr2 : (w3.setCell ⟨w.heap.size, 1, none⟩ (.slice A1 (i + 1) c1)).grownBy w5 z.ownBlock := hgr2; obtain ⟨A2, c2, rfl, -, -, -⟩ := own_form how2; have hB4 := hide (hB3.out.pushZ how2 hgr2 hat2); have hk2 := hide (blk_other hB3.out.blk hB3.out.dz hgr2 (by decide)); have y4 := hk2.out.lt; have y5 : w5.cell? ⟨w.heap.size, 2, none⟩ = some z := hk2.out.cell 2; have y6 := hk2.out.free 2; clear how2 hb2 hgr2 hat2))
        clear hB2 hB3 hk1 hk2 x0 x1 hz2 y0 y1 y2 y3 y4 y5 y6
        go_roundw
        case rel => exact ⟨i + 1, _, _, _, _, _, by go_num, by omega, hB4, fun k hk => (htk.out k hk).elim (hok.out k) fun e => by rw [e]; exact hko⟩
        case measure => simp [intOf]; omega
      · have hN1 := hide (hNo.out kv i wr hko)
        unfold wayF at hN1
        have hbel0 := hide hB.out.bel
        clear hNo hN hB hmore
        go_wp2_with fail
        refine Calls.mono hN1.out ?_
        rintro e w2 ⟨rfl, hb2⟩
        have hb3 := hide (hbel0.out.trans (hb2.mono hbel0.out.size))
        clear hb2
        go_wp2_with fail
        go_ret2
        exact ⟨hb3.out, .inr rfl⟩
    · obtain rfl : i = n := by omega
      go_wp2_with fail
      go_ret2
      exact ⟨hB.out.bel, .inl ⟨rfl, fun k hk => hok.out k (by rw [List.take_of_length_le (by rw [hnn.out]; exact Nat.le_refl _)]; exact hk), u, z, d, p, Fs, hB.out⟩⟩
end CW
end Go.Proofs.YteebghoijaaakaaGreat
