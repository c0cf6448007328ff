/- The walks of layer 29, on: the letter of bytes, by its function. By the prover of this repo. -/
import Derived.Test.YtclndbaafibaiaaLetterG
namespace Go.Proofs.Ytclndbaafibaiaa
open Go.RowKit
open VaryM SealM

theorem open_bd (x : ByteArray) : (openRes x).1.size ≤ x.size := by
  unfold openRes
  split
  · exact Nat.zero_le _
  · split
    · simp
    · exact Nat.zero_le _
theorem cut_bd (s p : ByteArray) : (cutP s p).1.size ≤ s.size := by
  unfold cutP
  split <;> simp
theorem dec_key (e : Int) (A : Let) : Value.tuple #[lv (if e = 0 then A else ⟨0, 0, 0, ⟨#[]⟩⟩), .int .i64 e] = Value.tuple #[lv (if e = 0 then (A, 0) else ((⟨0, 0, 0, ⟨#[]⟩⟩ : Let), e)).1, .int .i64 (if e = 0 then (A, (0 : Int)) else ((⟨0, 0, 0, ⟨#[]⟩⟩ : Let), e)).2] := by
  by_cases h : e = 0
  · subst h; rfl
  · rw [if_neg h, if_neg h]
theorem letter_decode (all : ByteArray) (W : World) (hs : all.size ≤ 1000000000) : Calls Try.prog 47 #[.string all] W fun r w' => r = .returned (.tuple #[lv (decF all).1, .int .i64 (decF all).2]) ∧ Below W.heap.size W w' := by
  refine (letter_decode_go all _ _ W hs _ _ _ _ _ _ _ _ _ _ _ _ _ _ _ _ _ _ _ _ _ _ _ rfl (open_bd _) rfl rfl (cut_bd _ _) rfl rfl (num_bd _ _).2.2 rfl (num_bd _ _).2.2 rfl rfl rfl (num_bd _ _).2.2 (num_bd _ _).1 (num_bd _ _).2.1 rfl rfl (num_bd _ _).2.2 rfl rfl rfl).mono ?_
  rintro r w' ⟨hr, hb⟩
  exact ⟨hr.trans (congrArg Ending.returned (dec_key _ _)), hb⟩
end Go.Proofs.Ytclndbaafibaiaa
