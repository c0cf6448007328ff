/- Trees that are told by parents: all below a sensor, itself last. Plain facts. By the prover of this repo. -/
import Derived.Test.YtcpakoobgcdekaaDoorGroveK
namespace Go.Proofs.YtcpakoobgcdekaaDoor

theorem upF_suffix {p : List Int} : ∀ {m : Nat} {i : Int} {w : List Int} {x : Int}, upF p m i = some w → x ∈ w → ∃ v, upF p m x = some v ∧ v <:+ w
  | 0, i, w, x, h, _ => by cases h
  | m + 1, i, w, x, h, hx => by
    have h0 := h
    rw [upF_succ] at h
    by_cases h1 : p.getD i.toNat 0 = -1
    · rw [if_pos h1] at h
      cases h
      obtain rfl : x = i := by simpa using hx
      exact ⟨_, h0, List.suffix_refl _⟩
    · rw [if_neg h1] at h
      by_cases h2 : p.getD i.toNat 0 < 0 ∨ (p.length : Int) ≤ p.getD i.toNat 0
      · rw [if_pos h2] at h; cases h
      · rw [if_neg h2] at h
        obtain ⟨v, hv, rfl⟩ := Option.map_eq_some_iff.1 h
        rcases List.mem_cons.1 hx with rfl | hx
        · exact ⟨_, h0, List.suffix_refl _⟩
        · obtain ⟨u, hu, hl⟩ := upF_suffix hv hx
          exact ⟨u, upF_mono hu, hl.trans (List.suffix_cons _ _)⟩
/-- Every sensor has its way. -/
def Ways (p : List Int) : Prop := ∀ i : Nat, i < p.length → ∃ w, upF p 48 (i : Int) = some w
theorem ways_of_right {p : List Int} (h : rightF p = true) : Ways p ∧ 1 ≤ p.length ∧ p.length ≤ 48 ∧ rootsF p = 1 := by
  unfold rightF at h
  rw [Bool.and_eq_true, Bool.and_eq_true, decide_eq_true_eq, decide_eq_true_eq] at h
  refine ⟨fun i hi => ?_, h.1.1.1, h.1.1.2, h.2⟩
  have := h.1.2
  unfold okG at this
  rw [List.all_eq_true] at this
  have := this i (by simpa using hi)
  exact Option.isSome_iff_exists.1 this
theorem kid_way {p : List Int} {i k : Nat} (hi : i < p.length) (hk : k ∈ kidsL p (i : Int)) {w : List Int} (hw : upF p 48 (k : Int) = some w) : ∃ v, upF p 48 (i : Int) = some v ∧ w = (k : Int) :: v ∧ v.length ≤ 47 := by
  obtain ⟨h1, h2⟩ := kidsL_mem.1 hk
  rw [show (48 : Nat) = 47 + 1 from rfl, upF_succ, Int.toNat_natCast, h2, if_neg (by omega), if_neg (by omega)] at hw
  obtain ⟨v, hv, rfl⟩ := Option.map_eq_some_iff.1 hw
  exact ⟨v, upF_mono hv, rfl, (upF_length hv).2.2.1⟩
/-- All below a sensor, itself last, so deep. -/
def walkF (p : List Int) : Nat → Nat → List Nat
  | 0, i => [i]
  | m + 1, i => (kidsL p (i : Int)).flatMap (walkF p m) ++ [i]
/-- No deeper than so. -/
def Hgt (p : List Int) : Nat → Nat → Prop
  | 0, i => kidsL p (i : Int) = []
  | m + 1, i => ∀ k ∈ kidsL p (i : Int), Hgt p m k
theorem hgt_kid {p : List Int} {m i k : Nat} (h : Hgt p m i) (hk : k ∈ kidsL p (i : Int)) : 1 ≤ m ∧ Hgt p (m - 1) k := by
  cases m with
  | zero => rw [show kidsL p (i : Int) = [] from h] at hk; cases hk
  | succ m => exact ⟨by omega, h k hk⟩
theorem walk_eq {p : List Int} {m i : Nat} (h : Hgt p m i) : walkF p m i = (kidsL p (i : Int)).flatMap (walkF p (m - 1)) ++ [i] := by
  cases m with
  | zero => rw [show kidsL p (i : Int) = [] from h]; rfl
  | succ m => rfl
theorem hgt_way {p : List Int} (hW : Ways p) : ∀ (d i : Nat) (v : List Int), i < p.length → upF p 48 (i : Int) = some v → v.length + d = 48 → Hgt p d i
  | 0, i, v, hi, hv, hd => by
    refine List.eq_nil_iff_forall_not_mem.2 fun k hk => ?_
    obtain ⟨w, hw⟩ := hW k (kidsL_mem.1 hk).1
    obtain ⟨v', hv', rfl, hl⟩ := kid_way hi hk hw
    rw [hv] at hv'
    cases hv'
    omega
  | d + 1, i, v, hi, hv, hd => fun k hk => by
    have hk1 := (kidsL_mem.1 hk).1
    obtain ⟨w, hw⟩ := hW k hk1
    obtain ⟨v', hv', rfl, hl⟩ := kid_way hi hk hw
    rw [hv] at hv'
    cases hv'
    exact hgt_way hW d k _ hk1 hw (by rw [List.length_cons]; omega)
theorem hgt_of_ways {p : List Int} (hW : Ways p) {i : Nat} (hi : i < p.length) : Hgt p 48 i ∧ ∀ m, Hgt p m i → Hgt p (m + 1) i ∧ walkF p (m + 1) i = walkF p m i := by
  have mono : ∀ (m i : Nat), Hgt p m i → Hgt p (m + 1) i ∧ walkF p (m + 1) i = walkF p m i := by
    intro m
    induction m with
    | zero =>
      intro i h
      have h0 : kidsL p (i : Int) = [] := h
      refine ⟨fun k hk => ?_, ?_⟩
      · rw [h0] at hk; cases hk
      · show (kidsL p (i : Int)).flatMap _ ++ [i] = [i]
        rw [h0]; rfl
    | succ m ih =>
      intro i h
      refine ⟨fun k hk => (ih k (h k hk)).1, ?_⟩
      show (kidsL p (i : Int)).flatMap (walkF p (m + 1)) ++ [i] = (kidsL p (i : Int)).flatMap (walkF p m) ++ [i]
      congr 1
      have : ∀ l : List Nat, (∀ k ∈ l, Hgt p m k) → l.flatMap (walkF p (m + 1)) = l.flatMap (walkF p m) := by
        intro l
        induction l with
        | nil => intro _; rfl
        | cons a l ihl => intro hl; rw [List.flatMap_cons, List.flatMap_cons, (ih a (hl a (by simp))).2, ihl (fun k hk => hl k (by simp [hk]))]
      exact this _ h
  obtain ⟨v, hv⟩ := hW i hi
  have hl := (upF_length hv).2
  have h := hgt_way hW (48 - v.length) i v hi hv (by omega)
  refine ⟨?_, fun m => mono m i⟩
  have up : ∀ d m, Hgt p m i → Hgt p (m + d) i := by
    intro d
    induction d with
    | zero => intro m h; exact h
    | succ d ih => intro m h; exact (mono _ i (ih m h)).1
  have := up v.length (48 - v.length) h
  rwa [show 48 - v.length + v.length = 48 by omega] at this
theorem walk_mem {p : List Int} (hW : Ways p) : ∀ (m i k : Nat), i < p.length → Hgt p m i → k ∈ walkF p m i → k < p.length ∧ ∃ w, upF p 48 (k : Int) = some w ∧ (i : Int) ∈ w := by
  intro m
  induction m with
  | zero =>
    intro i k hi _ hk
    obtain rfl : k = i := by simpa [walkF] using hk
    obtain ⟨w, hw⟩ := hW k hi
    refine ⟨hi, w, hw, ?_⟩
    have := (upF_length hw).2.2.2
    cases w with
    | nil => cases this
    | cons a w => cases this; simp
  | succ m ih =>
    intro i k hi hg hk
    rcases List.mem_append.1 (show k ∈ (kidsL p (i : Int)).flatMap (walkF p m) ++ [i] from hk) with hk | hk
    · obtain ⟨a, ha, hka⟩ := List.mem_flatMap.1 hk
      have ha1 := (kidsL_mem.1 ha).1
      obtain ⟨h1, w, hw, haw⟩ := ih a k ha1 (hg a ha) hka
      refine ⟨h1, w, hw, ?_⟩
      obtain ⟨u, hu, hs⟩ := upF_suffix hw haw
      obtain ⟨v, hv, rfl, _⟩ := kid_way hi ha hu
      have h2 := (upF_length hv).2.2.2
      refine hs.subset (List.mem_cons_of_mem _ ?_)
      cases v with
      | nil => cases h2
      | cons b v => cases h2; simp
    · obtain rfl : k = i := by simpa using hk
      obtain ⟨w, hw⟩ := hW k hi
      refine ⟨hi, w, hw, ?_⟩
      have := (upF_length hw).2.2.2
      cases w with
      | nil => cases this
      | cons a w => cases this; simp
theorem upF_pred {p : List Int} : ∀ {m k : Nat} {w : List Int} {x : Int}, k < p.length → upF p m (k : Int) = some w → x ∈ w → x = (k : Int) ∨ ∃ a : Nat, (a : Int) ∈ w ∧ a < p.length ∧ p.getD a 0 = x
  | 0, k, w, x, _, h, _ => by cases h
  | m + 1, k, w, x, hk, h, hx => by
    rw [upF_succ, Int.toNat_natCast] at h
    by_cases h1 : p.getD k 0 = -1
    · rw [if_pos h1] at h
      cases h
      exact .inl (by simpa using hx)
    · rw [if_neg h1] at h
      by_cases h2 : p.getD k 0 < 0 ∨ (p.length : Int) ≤ p.getD k 0
      · rw [if_pos h2] at h; cases h
      · rw [if_neg h2] at h
        obtain ⟨v, hv, rfl⟩ := Option.map_eq_some_iff.1 h
        rcases List.mem_cons.1 hx with rfl | hx
        · exact .inl rfl
        · obtain ⟨y, hy⟩ := Int.eq_ofNat_of_zero_le (a := p.getD k 0) (by omega)
          rw [hy] at hv
          rcases upF_pred (by omega) hv hx with rfl | ⟨a, ha, ha1, ha2⟩
          · exact .inr ⟨k, by simp, hk, hy⟩
          · exact .inr ⟨a, List.mem_cons_of_mem _ ha, ha1, ha2⟩
/-- Whoever has a sensor on its way is below it. -/
theorem walk_mem' {p : List Int} (hW : Ways p) {k : Nat} (hk : k < p.length) {w : List Int} (hw : upF p 48 (k : Int) = some w) : ∀ (m i : Nat), Hgt p m i → (i : Int) ∈ w → k ∈ walkF p m i := by
  intro m
  induction m with
  | zero =>
    intro i hg hi
    rcases upF_pred hk hw hi with e | ⟨a, _, ha1, ha2⟩
    · obtain rfl : i = k := by omega
      simp [walkF]
    · have : a ∈ kidsL p (i : Int) := kidsL_mem.2 ⟨ha1, ha2⟩
      rw [show kidsL p (i : Int) = [] from hg] at this
      cases this
  | succ m ih =>
    intro i hg hi
    show k ∈ (kidsL p (i : Int)).flatMap (walkF p m) ++ [i]
    rcases upF_pred hk hw hi with e | ⟨a, ha, ha1, ha2⟩
    · obtain rfl : i = k := by omega
      simp
    · have hak : a ∈ kidsL p (i : Int) := kidsL_mem.2 ⟨ha1, ha2⟩
      exact List.mem_append_left _ (List.mem_flatMap.2 ⟨a, hak, ih a (hg a hak) ha⟩)
theorem kids_nodup (p : List Int) (i : Int) : (kidsL p i).Nodup := List.nodup_range.filter _
theorem walk_nodup {p : List Int} (hW : Ways p) : ∀ (m i : Nat), i < p.length → Hgt p m i → (walkF p m i).Nodup := by
  intro m
  induction m with
  | zero => intro i _ _; simp [walkF]
  | succ m ih =>
    intro i hi hg
    show ((kidsL p (i : Int)).flatMap (walkF p m) ++ [i]).Nodup
    rw [List.nodup_append]
    refine ⟨?_, by simp, ?_⟩
    · unfold List.Nodup
      rw [List.pairwise_flatMap]
      refine ⟨fun a ha => ih a (kidsL_mem.1 ha).1 (hg a ha), (kids_nodup p i).imp_of_mem fun {a b} ha hb hab x hx y hy e => ?_⟩
      subst e
      obtain ⟨_, w, hw, haw⟩ := walk_mem hW m a x (kidsL_mem.1 ha).1 (hg a ha) hx
      obtain ⟨_, w2, hw2, hbw⟩ := walk_mem hW m b x (kidsL_mem.1 hb).1 (hg b hb) hy
      rw [hw] at hw2
      cases hw2
      obtain ⟨u, hu, hs⟩ := upF_suffix hw haw
      obtain ⟨u2, hu2, hs2⟩ := upF_suffix hw hbw
      obtain ⟨v, hv, rfl, _⟩ := kid_way hi ha hu
      obtain ⟨v2, hv2, rfl, _⟩ := kid_way hi hb hu2
      rw [hv] at hv2
      cases hv2
      have := List.suffix_of_suffix_length_le hs hs2 (by simp)
      have e2 := this.eq_of_length (by simp)
      have e3 := (List.cons.inj e2).1
      exact hab (by omega)
    · intro x hx y hy e
      obtain rfl : y = i := by simpa using hy
      subst e
      obtain ⟨a, ha, hxa⟩ := List.mem_flatMap.1 hx
      obtain ⟨_, w, hw, haw⟩ := walk_mem hW m a x (kidsL_mem.1 ha).1 (hg a ha) hxa
      obtain ⟨u, hu, hs⟩ := upF_suffix hw haw
      obtain ⟨v, hv, rfl, _⟩ := kid_way hi ha hu
      rw [hw] at hv
      cases hv
      have := hs.length_le
      rw [List.length_cons] at this
      omega
theorem walk_length {p : List Int} (hW : Ways p) (hn : p.length ≤ 48) {m i : Nat} (hi : i < p.length) (hg : Hgt p m i) : (walkF p m i).length ≤ 48 := by
  have h := nodup_le p.length ((walkF p m i).map fun x : Nat => (x : Int)) ((walk_nodup hW m i hi hg).map _ fun a b hab e => hab (by omega)) (fun x hx => by
    obtain ⟨k, hk, rfl⟩ := List.mem_map.1 hx
    have := (walk_mem hW m i k hi hg hk).1
    omega)
  rw [List.length_map] at h
  omega
end Go.Proofs.YtcpakoobgcdekaaDoor
