/- A slice of one-celled elements that the call makes and whose end is cut off, capacity and all ('s = s[:n-1:n-1]'), then appended to again. By the prover of this repo. -/
import Derived.Test.YtbibchdjojmpaaaInts
namespace Go.Proofs.Ytbibchdjojmpaaa
open Go.RowKit

/-- As 'ownsRow', but the block may be longer than the capacity. -/
def Stk (w : World) (base : Nat) (e : TypeId) (v : Value) (n : Nat) (xs : List Value) : Prop :=
  xs.length = n ∧ ((v = .slice none 0 0 ∧ n = 0) ∨
    ∃ g cap cur, v = .slice (some ⟨g, 0, none⟩) n cap ∧ base ≤ g ∧ w.heap[g]? = some (.cells cur e (0, 0)) ∧ n ≤ cap ∧ cap ≤ maxLen ∧ cap ≤ cur.size ∧ cur.toList.take n = xs)
section
variable {w w' : World} {base : Nat} {e : TypeId} {v : Value} {n : Nat} {xs : List Value}
theorem Stk.nil (w : World) (base : Nat) (e : TypeId) : Stk w base e (.slice none 0 0) 0 [] := ⟨rfl, .inl ⟨rfl, rfl⟩⟩
theorem Stk.kept (h : Stk w base e v n xs) (hb : Below w.heap.size w w') : Stk w' base e v n xs := by
  obtain ⟨h1, h2⟩ := h
  refine ⟨h1, ?_⟩
  rcases h2 with h2 | ⟨g, cap, cur, k1, k2, k3, k4⟩
  · exact .inl h2
  · exact .inr ⟨g, cap, cur, k1, k2, (hb.block g (Array.getElem?_eq_some_iff.1 k3).1).trans k3, k4⟩
theorem Stk.alloc (h : Stk w base e v n xs) (o : Obj) : Stk (w.alloc o) base e v n xs := h.kept (balloc0 w o)
theorem Stk.form (h : Stk w base e v n xs) : ∃ A c, v = .slice A n c ∧ (A = none → n = 0) ∧ n ≤ c ∧ c ≤ maxLen := by
  rcases h.2 with ⟨rfl, rfl⟩ | ⟨g, cap, cur, rfl, _, _, h1, h2, _⟩
  · exact ⟨none, 0, rfl, fun _ => rfl, Nat.le_refl _, by unfold maxLen; omega⟩
  · exact ⟨some ⟨g, 0, none⟩, cap, rfl, (fun k => by cases k), h1, h2⟩
theorem Stk.rd {A : Option Addr} {c : Nat} (h : Stk w base e (.slice A n c) n xs) : Rd w A n 1 (fun i => xs.getD i undef) := fun hn => by
  rcases h.2 with ⟨_, rfl⟩ | ⟨g, cap, cur, hv, hb, hg, _, _, hc, ht⟩
  · exact absurd hn (by omega)
  · injection hv with h1 h2 h3
    subst h1
    refine ⟨g, 0, rfl, (Array.getElem?_eq_some_iff.1 hg).1, fun i hi => ?_⟩
    have hlt : i < xs.length := by rw [h.1]; omega
    rw [Nat.zero_add, cell_of_row w g i cur e (0, 0) hg, ← Array.getElem?_toList]
    have h5 : xs[i]? = cur.toList[i]? := by rw [← ht, List.getElem?_take_of_lt (by omega)]
    rw [← h5]
    simp [hlt]
theorem Stk.its {l : List Int} (h : Stk w base e v l.length (iv l)) : Its w v l := by
  obtain ⟨A, c, rfl, h1, h2, h3⟩ := h.form
  refine ⟨A, c, rfl, h1, h2, h3, h.rd.congr fun i hi => ?_⟩
  show (iv l).getD i undef = _
  rw [List.getD_eq_getElem?_getD, iv_get l i (by omega)]
  rfl
/-- The last one cut off, and the capacity with it. -/
theorem Stk.cut {g m cap : Nat} {ys : List Value} {u : Value} (h : Stk w base e (.slice (some ⟨g, 0, none⟩) (m + 1) cap) (m + 1) (ys ++ [u])) : Stk w base e (.slice (some ⟨g, 0, none⟩) m m) m ys := by
  obtain ⟨h1, h2⟩ := h
  have hl : ys.length = m := by simpa using h1
  refine ⟨hl, .inr ?_⟩
  rcases h2 with ⟨h2, _⟩ | ⟨g', cap', cur, hv, k1, k2, k3, k4, k5, k6⟩
  · cases h2
  · injection hv with e1 e2 e3
    injection e1 with e1
    injection e1 with e1
    subst e1 e3
    refine ⟨g, m, cur, rfl, k1, k2, Nat.le_refl _, by omega, by omega, ?_⟩
    have := congrArg (List.take m) k6
    rw [List.take_take, Nat.min_eq_left (by omega)] at this
    rw [this, ← hl, List.take_left]
end

section
variable {P : Program} {t e : TypeId} {z : Value} {bytes : Nat}
theorem run_app_stk (w : World) (E : Elem P t e z 1 bytes) (ty : TypeId) (base : Nat) (v : Value) (n : Nat) (xs : List Value) (how : Stk w base e v n xs)
    (ad : Addr) (c : Nat) (u : Value) (hu : w.cell? ad = some u) (h1 : u.oneCell' = true) (hs : ad.spot = none)
    (hb : (n + 1) * bytes ≤ 140737488355328) (hbase : base ≤ w.heap.size) :
    ∃ v' w', (Builtin.append_ #[t, t] ty #[v, .slice (some ad) 1 c]).run P w = .ok v' w' ∧ Stk w' base e v' (n + 1) (xs ++ [u]) ∧ Below base w w' := by
  obtain ⟨i, hi, hz, hsi, hby⟩ := info_parts E.info
  have hle : n + 1 ≤ (n + 1) * bytes := Nat.le_mul_of_pos_right _ E.pos.2
  have hzs := E.cells
  have hmx : n + 1 ≤ maxLen := by simp only [maxLen]; omega
  have hnews : ∀ j x, [u][j]? = some x → w.cell? (ad.add j) = some x := fun j x hx => by
    have hj : j = 0 := by have := (List.getElem?_eq_some_iff.1 hx).1; simpa using this
    subst hj
    simp at hx
    subst hx
    have : ad.add 0 = ad := by simp [Addr.add]
    rw [this]; exact hu
  have hlen : (xs ++ [u]).length = n + 1 := by rw [List.length_append, how.1]; rfl
  have fresh : ∀ (old : Nat), Stk (w.drew.alloc (.cells (xs.toArray ++ [u].toArray ++ Builtin.zeroCells z.cells (grownCap w (n + 1) old e - (n + 1))) e)) base e (.slice (some ⟨w.heap.size, 0, none⟩) (n + 1) (grownCap w (n + 1) old e)) (n + 1) (xs ++ [u]) := by
    intro old
    have hge := grownCap_ge w (n + 1) old e
    have hcm : grownCap w (n + 1) old e ≤ maxLen := grownCap_le_maxLen w (n + 1) old e hmx
    refine ⟨hlen, .inr ⟨w.heap.size, _, _, rfl, hbase, heap_alloc_new w.drew _, hge, hcm, ?_, ?_⟩⟩
    · simp only [Array.size_append, List.size_toArray, size_zeroCells, hzs, how.1, List.length_cons, List.length_nil]
      omega
    · simp only [Array.toList_append, List.append_assoc]
      rw [← List.append_assoc, ← hlen]
      exact List.take_left
  have hbel : ∀ o : Obj, Below base w (w.drew.alloc o) := fun o => ((Below.refl base w).drew).alloc hbase o
  rcases how.2 with ⟨rfl, rfl⟩ | ⟨g, cap, cur, rfl, k1, k2, k3, k4, k5, k6⟩
  · have hx : xs = [] := List.eq_nil_of_length_eq_zero how.1
    subst hx
    have hr := run_append_nil (P := P) w t ty e i z E.slice hi hz ad 1 c [u] (by simp [hsi]) hnews (by omega) (by omega) (by rw [hby]; omega)
    have hf := fresh 0
    simp only [Nat.zero_add, List.nil_append, Array.empty_append] at hf ⊢
    exact ⟨_, _, hr, hf, hbel _⟩
  · by_cases hroom : n + 1 ≤ cap
    · have hr := run_append_room (P := P) w t ty e i E.slice hi g n cap cur k2 ad 1 c [u] (by simp [hsi]) hnews (by intro x hx; simp at hx; subst hx; exact h1) hroom (by rw [hsi]; simp; omega)
      refine ⟨_, _, hr, ⟨hlen, .inr ⟨g, cap, _, rfl, k1, setRow_heap w g cur _ e _ k2, hroom, k4, ?_, ?_⟩⟩, ⟨rfl, rfl, rfl, by simp, fun k hk => setRow_other w g k _ (fun h => by omega)⟩⟩
      · simp only [List.size_toArray, List.length_append, List.length_take, List.length_drop, Array.length_toList, List.length_cons, List.length_nil, hsi]
        omega
      · rw [hsi, Nat.mul_one, k6, ← hlen]
        exact List.take_left
    · have holds : ∀ j x, xs[j]? = some x → w.cell? ((⟨g, 0, none⟩ : Addr).add j) = some x := fun j x hx => by
        have hadd : (⟨g, 0, none⟩ : Addr).add j = ⟨g, j, none⟩ := by unfold Addr.add; split <;> simp_all
        rw [hadd, cell_of_row w g j cur e (0, 0) k2]
        rw [← k6, List.getElem?_take] at hx
        split at hx
        · simpa using hx
        · cases hx
      have hr := run_append_grow (P := P) w t ty e i z E.slice hi hz ⟨g, 0, none⟩ n cap xs (by rw [hsi, Nat.mul_one]; exact how.1) holds ad 1 c [u] (by simp [hsi]) hnews (by omega) (by unfold maxLen at *; omega) (by rw [hby]; exact growslice_fits (by omega) hb)
      exact ⟨_, _, hr, fresh cap, hbel _⟩
/-- 's = append(s, x)' of one element: its cell lies in a block of its own, just made. -/
theorem wpList_stk1 {ops : Array Oper} {rest : List Oper} {o : Oper} {a : Act} {Q : Exit → Act → World → Prop} {w : World} (E : Elem P t e z 1 bytes) (hgd : o.guard = none) (s x : Operand)
    (ho : o.op = .call { callee := .builtin .append, args := #[s, x], argTypes := #[t, t] })
    (base : Nat) (v : Value) (n : Nat) (xs : List Value) (u : Value) (e' : TypeId) (hs : a.eval s = v) (how : Stk w base e v n xs)
    (hx : a.eval x = .slice (some ⟨w.heap.size, 0, none⟩) 1 1) (h1 : u.oneCell' = true)
    (hb : (n + 1) * bytes ≤ 140737488355328) (hbase : base ≤ w.heap.size)
    (h : ∀ v' w', Stk w' base e v' (n + 1) (xs ++ [u]) → Below base w w' → wpList P ops Q rest (a.put o.dst v') w') :
    wpList P ops Q (o :: rest) a (w.alloc (.cells #[u] e')) :=
  wpList_plain hgd fun _ hK => by
    have hc : (w.alloc (.cells #[u] e')).cell? ⟨w.heap.size, 0, none⟩ = some u := by
      rw [(Blk.made w e' #[u]).cell 0]; rfl
    obtain ⟨v', w', hrun, h2, h3⟩ := run_app_stk (P := P) (w.alloc (.cells #[u] e')) E o.type base v n xs (how.alloc _) ⟨w.heap.size, 0, none⟩ 1 u hc h1 rfl hb (by simp; omega)
    unfold Oper.wp execOp
    simp only [ho, resolve, invoke, builtin, Sem.run_bind, Sem.run_pure, Result.andThen_ok, List.map_toArray, List.map_cons, List.map_nil, hs, hx, hrun]
    exact hK _ _ (h v' w' h2 (((Below.refl base w).alloc hbase _).trans h3))
end
end Go.Proofs.Ytbibchdjojmpaaa
