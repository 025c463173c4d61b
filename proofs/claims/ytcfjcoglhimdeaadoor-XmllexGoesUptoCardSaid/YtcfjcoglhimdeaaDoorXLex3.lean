/- xmllex: what is skipped. -/
import Derived.Test.YtcfjcoglhimdeaaDoorXLex2
set_option linter.unusedSimpArgs false
set_option linter.unusedVariables false
namespace Go.Proofs.Av
attribute [local congr] ifB_congr andThen_congr bind_congr' fend_congr guarded_congr branch_congr behind_congr again_congr
set_option maxHeartbeats 1000000
set_option linter.unusedSimpArgs false
set_option linter.unusedVariables false

theorem commentB_le {l : List UInt8} (h : 4 ≤ l.length) : 0 ≤ commentB l ∧ commentB l ≤ l.length := by
  unfold commentB
  split
  · omega
  · rename_i h0
    split
    · omega
    · rename_i h1
      rw [Bool.not_eq_false] at h1
      have := Lib.hasPrefix_le h1
      rw [List.length_drop] at this
      simp only [List.length_cons, List.length_nil] at this
      omega
theorem instrB_le {l : List UInt8} (h : 2 ≤ l.length) : 0 ≤ instrB l ∧ instrB l ≤ l.length := by
  unfold instrB
  split
  · omega
  · rename_i h0
    simp only [not_or] at h0
    have h1 := Lib.index_room (l.drop (2 + nmB (l.drop 2))) [63, 62] (by omega)
    rw [List.length_drop] at h1
    simp only [List.length_cons, List.length_nil] at h1
    have h2 := nmB_le (l.drop 2)
    rw [List.length_drop] at h2
    omega
def skipS (l : List UInt8) : Option Int := if Lib.hasPrefix l [60, 33, 45, 45] then some (commentB l) else if Lib.hasPrefix l [60, 63] then some (instrB l) else none
theorem skipS_le {l : List UInt8} {d : Int} (h : skipS l = some d) : 0 ≤ d ∧ d ≤ l.length := by
  unfold skipS at h
  split at h
  · rename_i h1
    have := Lib.hasPrefix_le h1
    simp only [Option.some.injEq] at h
    subst h
    exact commentB_le (by simpa using this)
  · split at h
    · rename_i h1
      have := Lib.hasPrefix_le h1
      simp only [Option.some.injEq] at h
      subst h
      exact instrB_le (by simpa using this)
    · cases h
def skipF : Nat → List UInt8 → Nat → Nat × Int
  | 0, _, n => (n, 0)
  | f + 1, l, n => match skipS (l.drop n) with
    | none => (n, 0)
    | some d => if d = 0 then (n, 11) else skipF f l (n + d.toNat)
theorem skipF_le (l : List UInt8) : ∀ (f n : Nat), n ≤ l.length → n ≤ (skipF f l n).1 ∧ (skipF f l n).1 ≤ l.length
  | 0, n, h => ⟨Nat.le_refl _, h⟩
  | f + 1, n, h => by
    rw [skipF]
    split
    · exact ⟨Nat.le_refl _, h⟩
    · rename_i d hd
      have h1 := skipS_le hd
      rw [List.length_drop] at h1
      split
      · exact ⟨Nat.le_refl _, h⟩
      · have := skipF_le l f (n + d.toNat) (by omega)
        omega
theorem lp_Skip (z : Bool) (l : List UInt8) (hl : l.length ≤ 1048576) : ∀ (f n : Nat), n ≤ l.length → l.length < n + f →
    nx_xmllex_Skip_0 ⟨[(0, .im (.by_ z l)), (1, .im (.i .i64 n))], []⟩ = some (.rt, ⟨[(4, .im (.i .i64 (skipF f l n).1)), (5, .im (.i .i64 (skipF f l n).2))], []⟩) := by
  intro f
  induction f with
  | zero => intro n h1 h2; omega
  | succ f ih =>
    intro n h1 h2
    have a2 := le_dec h1
    have a3 := ge0_dec n
    have hl2 : (l.drop n).length ≤ 1048576 := by rw [List.length_drop]; omega
    rw [nx_xmllex_Skip_0, skipF]
    have fin : ∀ d : Int, skipS (l.drop n) = some d → d ≠ 0 → IntKind.wrap .i64 ((n : Int) + d) = ((n + d.toNat : Nat) : Int) ∧ n + d.toNat ≤ l.length ∧ l.length < n + d.toNat + f := by
      intro d hd hne
      have := skipS_le hd
      rw [List.length_drop] at this
      refine ⟨?_, by omega, by omega⟩
      rw [wrap_i64 (by omega) (by omega)]
      omega
    cases hp : Lib.hasPrefix (l.drop n) [60, 33, 45, 45] with
    | true =>
      have h4 : 4 ≤ (l.drop n).length := by simpa using Lib.hasPrefix_le hp
      have hs : skipS (l.drop n) = some (commentB (l.drop n)) := by unfold skipS; rw [hp]; rfl
      have fin := fin _ hs
      rw [hs]
      simp only
      by_cases h0 : commentB (l.drop n) = 0
      · have b1 : (commentB (l.drop n) == 0) = true := by simpa using h0
        rw [if_pos h0]
        simp only [b_xmllex_Skip_0, a2, a3, ev_HasPrefix, hp, ev_comment z _ hl2 h4, b1, go_sem, Nat.reduceBEq, Nat.reduceLeDiff, Nat.reduceAdd, Nat.reduceSub, Nat.reduceMul, Nat.reduceEqDiff, Nat.reduceLT, ↓reduceIte, eq_self, reduceCtorEq, List.getD_nil, Bool.true_or, Bool.or_true, Bool.and_false, Bool.false_and, Int.reduceLT, Int.reduceLE, List.isEmpty_cons, Int.reduceToNat, UInt8.reduceOfNat, Int.reduceBEq, Int.reduceNe, instBEqOfDecidableEq]
      · have b1 : (commentB (l.drop n) == 0) = false := by simpa using h0
        obtain ⟨hw, k1, k2⟩ := fin h0
        rw [if_neg h0, ← ih _ k1 k2]
        simp only [b_xmllex_Skip_0, a2, a3, ev_HasPrefix, hp, ev_comment z _ hl2 h4, b1, hw, lg_xmllex_Skip_0, norm, go_sem, Nat.reduceBEq, Nat.reduceLeDiff, Nat.reduceAdd, Nat.reduceSub, Nat.reduceMul, Nat.reduceEqDiff, Nat.reduceLT, ↓reduceIte, eq_self, reduceCtorEq, List.getD_nil, Bool.true_or, Bool.or_true, Bool.and_false, Bool.false_and, Int.reduceLT, Int.reduceLE, List.isEmpty_cons, Int.reduceToNat, UInt8.reduceOfNat, Int.reduceBEq, Int.reduceNe, instBEqOfDecidableEq]
    | false =>
      cases hq : Lib.hasPrefix (l.drop n) [60, 63] with
      | true =>
        have h4 : 2 ≤ (l.drop n).length := by simpa using Lib.hasPrefix_le hq
        have hs : skipS (l.drop n) = some (instrB (l.drop n)) := by unfold skipS; rw [hp, hq]; rfl
        have fin := fin _ hs
        rw [hs]
        simp only
        by_cases h0 : instrB (l.drop n) = 0
        · have b1 : (instrB (l.drop n) == 0) = true := by simpa using h0
          rw [if_pos h0]
          simp only [b_xmllex_Skip_0, a2, a3, ev_HasPrefix, hp, hq, ev_instruction z _ hl2 h4, b1, go_sem, Nat.reduceBEq, Nat.reduceLeDiff, Nat.reduceAdd, Nat.reduceSub, Nat.reduceMul, Nat.reduceEqDiff, Nat.reduceLT, ↓reduceIte, eq_self, reduceCtorEq, List.getD_nil, Bool.true_or, Bool.or_true, Bool.and_false, Bool.false_and, Int.reduceLT, Int.reduceLE, List.isEmpty_cons, Int.reduceToNat, UInt8.reduceOfNat, Int.reduceBEq, Int.reduceNe, instBEqOfDecidableEq]
        · have b1 : (instrB (l.drop n) == 0) = false := by simpa using h0
          obtain ⟨hw, k1, k2⟩ := fin h0
          rw [if_neg h0, ← ih _ k1 k2]
          simp only [b_xmllex_Skip_0, a2, a3, ev_HasPrefix, hp, hq, ev_instruction z _ hl2 h4, b1, hw, lg_xmllex_Skip_0, norm, go_sem, Nat.reduceBEq, Nat.reduceLeDiff, Nat.reduceAdd, Nat.reduceSub, Nat.reduceMul, Nat.reduceEqDiff, Nat.reduceLT, ↓reduceIte, eq_self, reduceCtorEq, List.getD_nil, Bool.true_or, Bool.or_true, Bool.and_false, Bool.false_and, Int.reduceLT, Int.reduceLE, List.isEmpty_cons, Int.reduceToNat, UInt8.reduceOfNat, Int.reduceBEq, Int.reduceNe, instBEqOfDecidableEq]
      | false =>
        have hs : skipS (l.drop n) = none := by unfold skipS; rw [hp, hq]; rfl
        rw [hs]
        simp only [b_xmllex_Skip_0, a2, a3, ev_HasPrefix, hp, hq, go_sem, Nat.reduceBEq, Nat.reduceLeDiff, Nat.reduceAdd, Nat.reduceSub, Nat.reduceMul, Nat.reduceEqDiff, Nat.reduceLT, ↓reduceIte, eq_self, reduceCtorEq, List.getD_nil, Bool.true_or, Bool.or_true, Bool.and_false, Bool.false_and, Int.reduceLT, Int.reduceLE, List.isEmpty_cons, Int.reduceToNat, UInt8.reduceOfNat, Int.reduceBEq, Int.reduceNe, instBEqOfDecidableEq]
def skipB (l : List UInt8) (n : Nat) : Nat × Int := skipF (l.length + 1) l n
theorem ev_Skip (z : Bool) (l : List UInt8) (n : Nat) (hl : l.length ≤ 1048576) (hn : n ≤ l.length) : ev' f_xmllex_Skip [.im (.by_ z l), .im (.i .i64 n)] [] = some (.ret [.im (.i .i64 (skipB l n).1), .im (.i .i64 (skipB l n).2)] []) := by
  rw [g_xmllex_Skip rfl]
  have h1 := lp_Skip z l hl (l.length + 1) n hn (by omega)
  have a1 : decide ((n : Int) < 0) = false := by simp
  have a2 : decide ((l.length : Int) < (n : Int)) = false := by simp; omega
  simp only [c_xmllex_Skip, lg_xmllex_Skip_0, norm, h1, a1, a2, go_sem, Nat.reduceBEq, Nat.reduceLeDiff, Nat.reduceAdd, Nat.reduceSub, Nat.reduceMul, Nat.reduceEqDiff, Nat.reduceLT, ↓reduceIte, eq_self, reduceCtorEq, List.getD_nil, Bool.true_or, Bool.or_true, Bool.and_false, Bool.false_and, Int.reduceLT, Int.reduceLE, List.isEmpty_cons, Int.reduceToNat, UInt8.reduceOfNat, Int.reduceBEq, Int.reduceNe, instBEqOfDecidableEq]
  rfl
theorem ev_Skip_no (z : Bool) (l : List UInt8) (n : Int) (hn : n < 0 ∨ (l.length : Int) < n) : ev' f_xmllex_Skip [.im (.by_ z l), .im (.i .i64 n)] [] = some (.ret [.im (.i .i64 0), .im (.i .i64 1)] []) := by
  rw [g_xmllex_Skip rfl]
  by_cases h : n < 0
  · have a1 : decide (n < 0) = true := by simpa using h
    simp only [c_xmllex_Skip, a1, go_sem, Nat.reduceBEq, Nat.reduceLeDiff, Nat.reduceAdd, Nat.reduceSub, Nat.reduceMul, Nat.reduceEqDiff, Nat.reduceLT, ↓reduceIte, eq_self, reduceCtorEq, List.getD_nil, Bool.true_or, Bool.or_true, Bool.and_false, Bool.false_and, Int.reduceLT, Int.reduceLE, List.isEmpty_cons, Int.reduceToNat, UInt8.reduceOfNat, Int.reduceBEq, Int.reduceNe, instBEqOfDecidableEq]
  · have a1 : decide (n < 0) = false := by simpa using h
    have a2 : decide ((l.length : Int) < n) = true := by simp; omega
    simp only [c_xmllex_Skip, a1, a2, go_sem, Nat.reduceBEq, Nat.reduceLeDiff, Nat.reduceAdd, Nat.reduceSub, Nat.reduceMul, Nat.reduceEqDiff, Nat.reduceLT, ↓reduceIte, eq_self, reduceCtorEq, List.getD_nil, Bool.true_or, Bool.or_true, Bool.and_false, Bool.false_and, Int.reduceLT, Int.reduceLE, List.isEmpty_cons, Int.reduceToNat, UInt8.reduceOfNat, Int.reduceBEq, Int.reduceNe, instBEqOfDecidableEq]
end Go.Proofs.Av
