/- The builtin copy within one slice that the call owns, its elements of more cells than one: a row moved up by one place. By the prover of this repo. -/
import Derived.Test.YtkjihbaiofocgaaOwn
import Derived.Laws.CopyOwn
namespace Go.Proofs.Ytkjihbaiofocgaa
open Go.RowKit

section
variable {P : Program}
theorem run_copy_sz (w : World) (dT sT ty elem : TypeId) (size : Nat) (g o dLen dCap : Nat) (a : Addr) (sLen sCap : Nat) (cur : Array Value) (t : TypeId) (cs : List Value)
    (hu : P.underlying dT = some (.slice elem)) (hs : (P.info? elem).map (·.size) = some size)
    (hg : w.heap[g]? = some (.cells cur t (0, 0))) (hn : cs.length = Nat.min sLen dLen * size)
    (hsrc : ∀ j v, cs[j]? = some v → w.cell? (a.add j) = some v) (hfit : o + cs.length ≤ cur.size) (h1 : ∀ v ∈ cs, v.oneCell' = true) :
    (Builtin.copy_ #[dT, sT] ty #[.slice (some ⟨g, o, none⟩) dLen dCap, .slice (some a) sLen sCap]).run P w =
      .ok (goInt (Nat.min sLen dLen)) (w.setRow g (cur.toList.take o ++ cs ++ cur.toList.drop (o + cs.length)).toArray) := by
  have hl := run_loadCells_list (P := P) w a cs hsrc
  have hst := run_storeCells_at P g o t cs 0 cur w hg (by simpa using hfit) h1
  cases hq : P.info? elem with
  | none => simp [hq] at hs
  | some i =>
    have hi : i.size = size := by simpa [hq] using hs
    simp [Builtin.copy_, run_underlying hu, Builtin.lenOf, Builtin.firstCells, sizeOf, typeInfo, hq, hi, ← hn, hl, hst]
theorem run_copy_zero (w : World) (dT sT ty elem : TypeId) (size : Nat) (d a : Option Addr) (dLen dCap sLen sCap : Nat) (hu : P.underlying dT = some (.slice elem)) (hs : (P.info? elem).map (·.size) = some size) (hn : Nat.min sLen dLen = 0) :
    (Builtin.copy_ #[dT, sT] ty #[.slice d dLen dCap, .slice a sLen sCap]).run P w = .ok (goInt 0) w := by
  cases hq : P.info? elem with
  | none => simp [hq] at hs
  | some i =>
    have hl : ∀ (x : Addr), (loadCells x 0).run P w = .ok #[] w := fun x => by simpa using run_loadCells_list (P := P) w x [] (by simp)
    cases d <;> cases a <;> simp [Builtin.copy_, run_underlying hu, Builtin.lenOf, Builtin.firstCells, sizeOf, typeInfo, hq, hn, storeCells, hl]

/-- A row of m elements with those from place k on moved up by one place. -/
def moved (xs : List Value) (size m k : Nat) : List Value := xs.take ((k + 1) * size) ++ (xs.drop (k * size)).take ((m - (k + 1)) * size)
theorem moved_length (xs : List Value) (size m k : Nat) (h : xs.length = m * size) (hk : k < m) : (moved xs size m k).length = m * size := by
  unfold moved
  obtain ⟨d, rfl⟩ : ∃ d, m = k + 1 + d := ⟨m - (k + 1), by omega⟩
  have e1 : (k + 1 + d) * size = (k + 1) * size + d * size := Nat.add_mul _ _ _
  have e2 : (k + 1) * size = k * size + size := by rw [Nat.add_mul, Nat.one_mul]
  rw [Nat.add_sub_cancel_left, List.length_append, List.length_take, List.length_take, List.length_drop, h, e1]
  omega

theorem wpList_shift {t e : TypeId} {z : Value} {size bytes : Nat} {ops : Array Oper} {rest : List Oper} {o : Oper} {a : Act} {Q : Exit → Act → World → Prop} {w : World} (E : Elem P t e z size bytes) (hgd : o.guard = none) (d s : Operand)
    (ho : o.op = .call { callee := .builtin .copy, args := #[d, s], argTypes := #[t, t] })
    (base b m cap k : Nat) (xs : List Value) (hown : w.ownsRow base e size (.slice (some ⟨b, 0, none⟩) m cap) m xs) (hk : k < m) (dp : Option Addr) (dl dc sl sc : Nat)
    (hd : a.eval d = .slice dp dl dc) (hdl : dl = m - (k + 1)) (hdp : k + 1 < m → dp = some ⟨b, (k + 1) * size, none⟩) (hs : a.eval s = .slice (some ⟨b, k * size, none⟩) sl sc) (hsl : sl = m - k) (h1 : ∀ v ∈ xs, v.oneCell' = true)
    (h : ∀ w' u, w'.ownsRow base e size (.slice (some ⟨b, 0, none⟩) m cap) m (moved xs size m k) → w.grownBy w' (some b) → wpList P ops Q rest (a.put o.dst u) w') :
    wpList P ops Q (o :: rest) a w := by
  subst hdl hsl
  obtain ⟨i, hi, _, hsz, _⟩ := info_parts E.info
  have hsz' : (P.info? e).map (·.size) = some size := by rw [hi]; simp [hsz]
  refine wpList_plain hgd fun K hK => ?_
  have hxl := hown.1
  have hml := moved_length xs size m k hxl hk
  rcases hown.2 with ⟨hbad, _⟩ | ⟨g, cp, cur, hv, hbg, hg, hnc, hcm, hcs, htake⟩
  · cases hbad
  · simp only [Value.slice.injEq, Option.some.injEq, Addr.mk.injEq, and_true, true_and] at hv
    obtain ⟨rfl, rfl⟩ := hv
    have e2 : (k + 1) * size = k * size + size := by rw [Nat.add_mul, Nat.one_mul]
    by_cases hkm : k + 1 < m
    · obtain rfl := hdp hkm
      obtain ⟨q, rfl⟩ : ∃ q, m = k + 1 + q := ⟨m - (k + 1), by omega⟩
      have e1 : (k + 1 + q) * size = (k + 1) * size + q * size := Nat.add_mul _ _ _
      have e3 : cap * size = (k + 1 + q) * size + (cap - (k + 1 + q)) * size := by rw [← Nat.add_mul]; congr 1; omega
      have hmin : Nat.min (k + 1 + q - k) (k + 1 + q - (k + 1)) = q := by show min _ _ = _; omega
      have hcl : ((xs.drop (k * size)).take (q * size)).length = q * size := by
        rw [List.length_take, List.length_drop, hxl]; omega
      have hrun := run_copy_sz (P := P) w t t o.type e size b ((k + 1) * size) (k + 1 + q - (k + 1)) dc ⟨b, k * size, none⟩ (k + 1 + q - k) sc cur e ((xs.drop (k * size)).take (q * size)) E.slice hsz' hg (by rw [hmin, hcl])
        (by
          intro j v hj
          have hjl := (List.getElem?_eq_some_iff.1 hj).1
          rw [hcl] at hjl
          have hadd : (⟨b, k * size, none⟩ : Addr).add j = ⟨b, k * size + j, none⟩ := by unfold Addr.add; split <;> simp_all
          rw [hadd, hown.cellAt (k * size + j) (by omega)]
          rw [List.getElem?_take, if_pos hjl, List.getElem?_drop] at hj
          exact hj) (by rw [hcl, hcs]; omega) (fun v hv => h1 v (List.mem_of_mem_drop (List.mem_of_mem_take hv)))
      unfold Oper.wp
      simp only [execOp, ho, resolve, invoke, builtin, Sem.run_bind, Sem.run_pure, Result.andThen_ok, List.map_toArray, List.map_cons, List.map_nil, hd, hs, hrun]
      refine hK _ _ (h _ _ ⟨hml, .inr ⟨b, cap, _, rfl, hbg, setRow_heap w b cur _ e _ hg, hnc, hcm, ?_, ?_⟩⟩ ⟨rfl, rfl, rfl, by simp, fun j _ hj => setRow_other w b j _ (fun e => hj (by simp [e]))⟩)
      · simp only [List.size_toArray, List.length_append, List.length_take, List.length_drop, Array.length_toList, hcl, hxl, hcs]
        omega
      · unfold moved
        rw [Nat.add_sub_cancel_left]
        have hl2 : (cur.toList.take ((k + 1) * size)).length = (k + 1) * size := by rw [List.length_take, Array.length_toList, hcs]; omega
        have ht2 : cur.toList.take ((k + 1) * size) = xs.take ((k + 1) * size) := by
          rw [← htake, List.take_take, Nat.min_eq_left (by omega)]
        rw [List.take_append_of_le_length (by rw [List.length_append, hl2, hcl]; omega), List.take_of_length_le (by rw [List.length_append, hl2, hcl]; omega), ht2]
    · obtain rfl : m = k + 1 := by omega
      have hrun := run_copy_zero (P := P) w t t o.type e size dp (some ⟨b, k * size, none⟩) (k + 1 - (k + 1)) dc (k + 1 - k) sc E.slice hsz' (by show min _ _ = _; omega)
      unfold Oper.wp
      simp only [execOp, ho, resolve, invoke, builtin, Sem.run_bind, Sem.run_pure, Result.andThen_ok, List.map_toArray, List.map_cons, List.map_nil, hd, hs, hrun]
      have hm : moved xs size (k + 1) k = xs := by
        unfold moved
        rw [Nat.sub_self, Nat.zero_mul, List.take_zero, List.append_nil, List.take_of_length_le (by rw [hxl]; exact Nat.le_refl _)]
      refine hK _ _ (h _ _ (by rw [hm]; exact hown) (World.grownBy.refl w _))
end
end Go.Proofs.Ytkjihbaiofocgaa
