/- XmllexGoes: the law. -/
import Derived.Test.YtcfjcoglhimdeaaDoorXLex8
import Derived.KernelRfl
set_option linter.unusedSimpArgs false
set_option linter.unusedVariables false
namespace Go.Proofs.Av
attribute [local congr] ifB_congr andThen_congr bind_congr' fend_congr guarded_congr branch_congr behind_congr again_congr
set_option maxHeartbeats 1000000
set_option linter.unusedSimpArgs false
set_option linter.unusedVariables false

theorem hasPrefix_trim {l t : List UInt8} (h : Lib.hasPrefix l t = true) : (Lib.trimPrefix l t).length + t.length = l.length := by
  have := Lib.hasPrefix_le h
  unfold Lib.trimPrefix
  rw [h, if_pos rfl, List.length_drop]
  omega
theorem tokenB_prog {l : List UInt8} (hne : l ≠ []) (he : (tokenB l).err = 0) : (tokenB l).kind ≠ 0 ∧ (tokenB l).rest.length < l.length := by
  unfold tokenB at he ⊢
  rw [if_neg hne] at he ⊢
  have hpos : 0 < l.length := List.length_pos_iff.2 hne
  split at he
  · rename_i h1
    rw [if_pos h1]
    unfold literalB
    simp only
    have h2 := hasPrefix_trim h1
    have h3 := cut_len (Lib.trimPrefix l [60, 33, 91, 67, 68, 65, 84, 65, 91]) [93, 93, 62]
    simp only [List.length_cons, List.length_nil] at h2
    exact ⟨by decide, by omega⟩
  · rename_i h1
    rw [if_neg h1]
    split at he
    · cases he
    · rename_i h2
      rw [if_neg h2]
      split at he
      · rename_i h3
        rw [if_pos h3]
        unfold closingB
        simp only
        have h4 := hasPrefix_trim h3
        simp only [List.length_cons, List.length_nil] at h4
        have h5 := afterName_len (Lib.trimPrefix l [60, 47])
        have h6 := trimPrefix_len (afterName (Lib.trimPrefix l [60, 47])) [62]
        split
        · exact ⟨by simp, by simp only; omega⟩
        · exact ⟨by simp, by simp only; omega⟩
      · rename_i h3
        rw [if_neg h3]
        split at he
        · rename_i h4
          rw [if_pos h4]
          unfold openingB
          simp only
          have h5 := hasPrefix_trim h4
          simp only [List.length_cons, List.length_nil] at h5
          split
          · exact ⟨by simp, by simp only [List.length_drop]; omega⟩
          · have h6 := openF_len ((List.drop (fullB (Lib.trimPrefix l [60])) (Lib.trimPrefix l [60])).length + 1) (List.drop (fullB (Lib.trimPrefix l [60])) (Lib.trimPrefix l [60])) []
            have h7 : (List.drop (fullB (Lib.trimPrefix l [60])) (Lib.trimPrefix l [60])).length ≤ (Lib.trimPrefix l [60]).length := by rw [List.length_drop]; omega
            exact ⟨by simp, by simp only; omega⟩
        · rename_i h4
          rw [if_neg h4]
          have hless : 1 ≤ lessAt l := by
            cases l with
            | nil => exact absurd rfl hne
            | cons x r =>
              have hx : (x == 60) = false := by
                rw [Bool.eq_false_iff]
                intro hx
                have : x = 60 := by simpa using hx
                subst this
                exact h4 rfl
              unfold lessAt
              split
              · simp
              · rename_i h5
                unfold Lib.indexByte at h5 ⊢
                rw [hx] at h5 ⊢
                simp only [Bool.false_eq_true, if_false] at h5 ⊢
                have := Lib.indexByte_ge r 60
                split at h5
                · omega
                · rename_i h6
                  rw [if_neg h6]
                  simp only [beq_iff_eq] at h6
                  omega
          unfold textB
          split
          · exact ⟨by simp, by simp only [List.length_drop]; omega⟩
          · exact ⟨by simp, by simp only [List.length_drop]; omega⟩
theorem nextB_goes {b : List UInt8} {n : Int} (h : (nextB b n).err = 0) : n ≤ (nextB b n).pos ∧ (nextB b n).pos ≤ b.length ∧ (n < (nextB b n).pos ∨ (nextB b n).kind = 0) ∧ ((nextB b n).kind ≠ 0 ∨ (nextB b n).pos = b.length) := by
  unfold nextB at h ⊢
  split at h
  · cases h
  · rename_i c0
    rw [if_neg c0]
    simp only at h ⊢
    have hle := skipF_le b (b.length + 1) n.toNat (by omega)
    rw [show skipF (b.length + 1) b n.toNat = skipB b n.toNat from rfl] at hle
    split at h
    · rename_i c1; exact absurd h c1
    · rename_i c1
      rw [if_neg c1]
      split at h
      · rename_i c2; exact absurd h c2
      · rename_i c2
        rw [if_neg c2]
        simp only
        have ht := tokenB_len (b.drop (skipB b n.toNat).1)
        rw [List.length_drop] at ht
        by_cases hl : b.drop (skipB b n.toNat).1 = []
        · have h1 := congrArg List.length hl
          rw [List.length_drop, List.length_nil] at h1
          have h2 : (tokenB (b.drop (skipB b n.toNat).1)).kind = 0 := by rw [hl]; rfl
          refine ⟨by omega, by omega, .inr h2, .inr (by omega)⟩
        · have hp := tokenB_prog hl (by simpa using c2)
          rw [List.length_drop] at hp
          exact ⟨by omega, by omega, .inl (by omega), .inl hp.1⟩
def awakeL : List UInt8 := [60, 97, 32, 98, 61, 39, 49, 39, 47, 62]
theorem awake_next : nextB awakeL 0 = ⟨1, [97], [.ag [.s [98], .s [49]]], true, [], 10, 0⟩ := by kernel_rfl
theorem ev_awake : ev' f_dossierlaw05_awake [] [] = some (.ret [.im (.b true)] []) := by
  rw [g_dossierlaw05_awake rfl]
  have h := fun z => ev_Next z awakeL 0 (by decide)
  rw [awake_next] at h
  simp only [tokV, awakeL] at h
  simp only [c_dossierlaw05_awake, h, List.isEmpty_cons, go_sem, Nat.reduceBEq, Nat.reduceLeDiff, Nat.reduceAdd, Nat.reduceSub, Nat.reduceMul, Nat.reduceEqDiff, Nat.reduceLT, ↓reduceIte, eq_self, reduceCtorEq, List.getD_nil, Bool.true_or, Bool.or_true, Bool.and_false, Bool.false_and, Int.reduceLT, Int.reduceLE, List.isEmpty_cons, Int.reduceToNat, UInt8.reduceOfNat, Int.reduceBEq, Int.reduceNe, instBEqOfDecidableEq]
  rfl
theorem ev_Goes (z : Bool) (b : List UInt8) (n : Int) (hb : b.length ≤ 1048576) : ev' f_dossierlaw05_XmllexGoes [.im (.by_ z b), .im (.i .i64 n)] [] = some (.ret [.im (.b true)] []) := by
  rw [g_dossierlaw05_XmllexGoes rfl]
  have h := ev_Next z b n hb
  have hg := @nextB_goes b n
  generalize nextB b n = q at *
  simp only [tokV] at h
  by_cases he : q.err = 0
  · obtain ⟨h1, h2, h3, h4⟩ := hg he
    have d0 : (q.err != 0) = false := by simpa using he
    have d1 : decide (n ≤ q.pos) = true := by simpa using h1
    have d2 : decide (q.pos ≤ (b.length : Int)) = true := by simpa using h2
    by_cases hk : q.kind = 0
    · have d3 : (q.kind == 0) = true := by simpa using hk
      have d4 : (q.kind != 0) = false := by simpa using hk
      have hp : q.pos = b.length := h4.resolve_left (by simpa using hk)
      have d5 : (q.pos == (b.length : Int)) = true := by simpa using hp
      cases d6 : decide (n < q.pos) <;> simp only [c_dossierlaw05_XmllexGoes, h, d0, d1, d2, d3, d4, d5, d6, ev_awake, go_sem, Nat.reduceBEq, Nat.reduceLeDiff, Nat.reduceAdd, Nat.reduceSub, Nat.reduceMul, Nat.reduceEqDiff, Nat.reduceLT, ↓reduceIte, eq_self, reduceCtorEq, List.getD_nil, Bool.true_or, Bool.or_true, Bool.and_false, Bool.false_and, Int.reduceLT, Int.reduceLE, List.isEmpty_cons, Int.reduceToNat, UInt8.reduceOfNat, Int.reduceBEq, Int.reduceNe, instBEqOfDecidableEq]
    · have d4 : (q.kind != 0) = true := by simpa using hk
      have hp : n < q.pos := h3.resolve_right hk
      have d6 : decide (n < q.pos) = true := by simpa using hp
      simp only [c_dossierlaw05_XmllexGoes, h, d0, d1, d2, d4, d6, ev_awake, go_sem, Nat.reduceBEq, Nat.reduceLeDiff, Nat.reduceAdd, Nat.reduceSub, Nat.reduceMul, Nat.reduceEqDiff, Nat.reduceLT, ↓reduceIte, eq_self, reduceCtorEq, List.getD_nil, Bool.true_or, Bool.or_true, Bool.and_false, Bool.false_and, Int.reduceLT, Int.reduceLE, List.isEmpty_cons, Int.reduceToNat, UInt8.reduceOfNat, Int.reduceBEq, Int.reduceNe, instBEqOfDecidableEq]
  · have d0 : (q.err != 0) = true := by simpa using he
    simp only [c_dossierlaw05_XmllexGoes, h, d0, ev_awake, go_sem, Nat.reduceBEq, Nat.reduceLeDiff, Nat.reduceAdd, Nat.reduceSub, Nat.reduceMul, Nat.reduceEqDiff, Nat.reduceLT, ↓reduceIte, eq_self, reduceCtorEq, List.getD_nil, Bool.true_or, Bool.or_true, Bool.and_false, Bool.false_and, Int.reduceLT, Int.reduceLE, List.isEmpty_cons, Int.reduceToNat, UInt8.reduceOfNat, Int.reduceBEq, Int.reduceNe, instBEqOfDecidableEq]
end Go.Proofs.Av
