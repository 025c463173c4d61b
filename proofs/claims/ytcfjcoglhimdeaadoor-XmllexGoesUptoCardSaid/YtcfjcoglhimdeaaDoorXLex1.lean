/- xmllex, first part: names, blanks, what a text begins with. -/
import Derived.Test.YtcfjcoglhimdeaaDoorXChars
set_option linter.unusedSimpArgs false
set_option linter.unusedVariables false
namespace Go.Proofs.Av
attribute [local congr] ifB_congr andThen_congr bind_congr' fend_congr guarded_congr branch_congr behind_congr again_congr
set_option maxHeartbeats 1000000
set_option linter.unusedSimpArgs false
set_option linter.unusedVariables false

theorem ev_HasPrefix (z y : Bool) (l p : List UInt8) : ev' f_bytes_HasPrefix [.im (.by_ z l), .im (.by_ y p)] [] = some (.ret [.im (.b (Lib.hasPrefix l p))] []) := ev_lib rfl rfl
theorem ev_CutPrefix (z y : Bool) (l p : List UInt8) : ev' f_bytes_CutPrefix [.im (.by_ z l), .im (.by_ y p)] [] = some (.ret [.im (.by_ z (Lib.trimPrefix l p)), .im (.b (Lib.hasPrefix l p))] []) := ev_lib rfl rfl
theorem ev_TrimLeft (z : Bool) (l : List UInt8) : ev' f_bytes_TrimLeft [.im (.by_ z l), .im (.s [32, 9, 10, 13])] [] = some (.ret [.im (.by_ (Lib.trimLeftS l [32, 9, 10, 13]).isEmpty (Lib.trimLeftS l [32, 9, 10, 13]))] []) := ev_lib rfl rfl
theorem ev_IndexByte (z : Bool) (l : List UInt8) (c : Int) : ev' f_bytes_IndexByte [.im (.by_ z l), .im (.i .u8 c)] [] = some (.ret [.im (.i .i64 (Lib.indexByte l (UInt8.ofNat c.toNat)))] []) := ev_lib rfl rfl
theorem small_of {l : List UInt8} (h : l.length ≤ 1048576) : small l = true := by unfold small; simp; omega
theorem ev_Index (z y : Bool) (l p : List UInt8) (h : l.length ≤ 1048576) : ev' f_bytes_Index [.im (.by_ z l), .im (.by_ y p)] [] = some (.ret [.im (.i .i64 (Lib.index l p))] []) := ev_lib rfl (by simp only [l_Index, small_of h, ifB_true])
theorem ev_Contains (z y : Bool) (l p : List UInt8) (h : l.length ≤ 1048576) : ev' f_bytes_Contains [.im (.by_ z l), .im (.by_ y p)] [] = some (.ret [.im (.b (Lib.contains l p))] []) := ev_lib rfl (by simp only [l_Contains, small_of h, ifB_true])
theorem ev_Cut (z y : Bool) (l p : List UInt8) (h : l.length ≤ 1048576) : ev' f_bytes_Cut [.im (.by_ z l), .im (.by_ y p)] [] = some (.ret [.im (.by_ z (Lib.cut l p).1), .im (.by_ (!(Lib.cut l p).2.2) (Lib.cut l p).2.1), .im (.b (Lib.cut l p).2.2)] []) := ev_lib rfl (by simp only [l_Cut, small_of h, ifB_true])
theorem le_dec {a b : Nat} (h : a ≤ b) : decide ((a : Int) ≤ (b : Int)) = true := by simpa using h
theorem ge0_dec (a : Nat) : decide ((0 : Int) ≤ (a : Int)) = true := by simp
/-- Where the name ends that begins at a place. -/
def nmF : Nat → List UInt8 → Nat → Nat
  | 0, _, n => n
  | f + 1, l, n => if (decC (l.drop n)).2 = 0 ∨ (n = 0 ∧ firstB (decC (l.drop n)).1 = false) ∨ laterB (decC (l.drop n)).1 = false then n else nmF f l (n + (decC (l.drop n)).2.toNat)
theorem nm_le (l : List UInt8) : ∀ (f n : Nat), n ≤ l.length → nmF f l n ≤ l.length
  | 0, n, h => h
  | f + 1, n, h => by
    rw [nmF]
    split
    · exact h
    · have := decC_pos (l.drop n)
      rw [List.length_drop] at this
      exact nm_le l f _ (by omega)
def nmB (l : List UInt8) : Nat := nmF (l.length + 1) l 0
theorem nmB_le (l : List UInt8) : nmB l ≤ l.length := nm_le l _ _ (by omega)
theorem lp_nameOf (z : Bool) (l : List UInt8) (hl : l.length ≤ 1048576) : ∀ (f n : Nat), n ≤ l.length → l.length < n + f →
    nx_xmllex_nameOf_0 ⟨[(0, .im (.by_ z l)), (3, .im (.i .i64 n))], []⟩ = some (.rt, ⟨[(2, .im (.by_ z (l.take (nmF f l n))))], []⟩) := by
  intro f
  induction f with
  | zero => intro n h1 h2; omega
  | succ f ih =>
    intro n h1 h2
    have a2 := le_dec h1
    have a3 := ge0_dec n
    have hd := decC_pos (l.drop n)
    rw [List.length_drop] at hd
    have hw : IntKind.wrap .i64 ((n : Int) + (decC (l.drop n)).2) = ((n + (decC (l.drop n)).2.toNat : Nat) : Int) := by rw [wrap_i64 (by omega) (by omega)]; omega
    have e0 : ((n : Int) == 0) = decide (n = 0) := by rw [Bool.eq_iff_iff]; simp
    have e1 : ((decC (l.drop n)).2 == 0) = decide ((decC (l.drop n)).2 = 0) := by rw [Bool.eq_iff_iff]; simp
    rw [nx_xmllex_nameOf_0]
    by_cases hs : (decC (l.drop n)).2 = 0 ∨ (n = 0 ∧ firstB (decC (l.drop n)).1 = false) ∨ laterB (decC (l.drop n)).1 = false
    · have hr : nmF (f + 1) l n = n := by rw [nmF, if_pos hs]
      rw [hr]
      simp only [b_xmllex_nameOf_0, a2, a3, e0, e1, ev_Decode, ev_First, ev_Later, go_sem, Nat.reduceBEq, Nat.reduceLeDiff, Nat.reduceAdd, Nat.reduceSub, Nat.reduceMul, Nat.reduceEqDiff, Nat.reduceLT, ↓reduceIte, eq_self, reduceCtorEq, List.getD_nil, Bool.true_or, Bool.or_true, Bool.and_false, Bool.false_and, Int.reduceLT, Int.reduceLE, List.isEmpty_cons, Int.reduceToNat, UInt8.reduceOfNat, Int.reduceBEq, Int.reduceNe, instBEqOfDecidableEq]
      repeat' (first | (refine brK_cases ?_ ?_ <;> intro hc <;> simp only [hc, a2, a3, e0, e1, ev_First, ev_Later, go_sem, Nat.reduceBEq, Nat.reduceLeDiff, Nat.reduceAdd, Nat.reduceSub, Nat.reduceMul, Nat.reduceEqDiff, Nat.reduceLT, ↓reduceIte, eq_self, reduceCtorEq, List.getD_nil, Bool.true_or, Bool.or_true, Bool.and_false, Bool.false_and, Int.reduceLT, Int.reduceLE, List.isEmpty_cons, Int.reduceToNat, UInt8.reduceOfNat, Int.reduceBEq, Int.reduceNe, instBEqOfDecidableEq]) | (refine gdK_cases ?_ ?_ <;> intro hc <;> simp only [hc, a2, a3, e0, e1, ev_First, ev_Later, go_sem, Nat.reduceBEq, Nat.reduceLeDiff, Nat.reduceAdd, Nat.reduceSub, Nat.reduceMul, Nat.reduceEqDiff, Nat.reduceLT, ↓reduceIte, eq_self, reduceCtorEq, List.getD_nil, Bool.true_or, Bool.or_true, Bool.and_false, Bool.false_and, Int.reduceLT, Int.reduceLE, List.isEmpty_cons, Int.reduceToNat, UInt8.reduceOfNat, Int.reduceBEq, Int.reduceNe, instBEqOfDecidableEq]) | (refine thK_pick_cases ?_ ?_ <;> intro hc <;> simp only [hc, a2, a3, e0, e1, ev_First, ev_Later, go_sem, Nat.reduceBEq, Nat.reduceLeDiff, Nat.reduceAdd, Nat.reduceSub, Nat.reduceMul, Nat.reduceEqDiff, Nat.reduceLT, ↓reduceIte, eq_self, reduceCtorEq, List.getD_nil, Bool.true_or, Bool.or_true, Bool.and_false, Bool.false_and, Int.reduceLT, Int.reduceLE, List.isEmpty_cons, Int.reduceToNat, UInt8.reduceOfNat, Int.reduceBEq, Int.reduceNe, instBEqOfDecidableEq]))
      all_goals first
        | (exfalso; simp_all; done)
        | trace_state
    · have hr : nmF (f + 1) l n = nmF f l (n + (decC (l.drop n)).2.toNat) := by rw [nmF, if_neg hs]
      rw [hr, ← ih _ (by omega) (by omega)]
      simp only [not_or, not_and, Bool.not_eq_false] at hs
      obtain ⟨h3, h4, h5⟩ := hs
      have b1 : decide ((decC (l.drop n)).2 = 0) = false := by simpa using h3
      simp only [b_xmllex_nameOf_0, a2, a3, e0, e1, b1, h5, hw, ev_Decode, ev_First, ev_Later, lg_xmllex_nameOf_0, norm, go_sem, Nat.reduceBEq, Nat.reduceLeDiff, Nat.reduceAdd, Nat.reduceSub, Nat.reduceMul, Nat.reduceEqDiff, Nat.reduceLT, ↓reduceIte, eq_self, reduceCtorEq, List.getD_nil, Bool.true_or, Bool.or_true, Bool.and_false, Bool.false_and, Int.reduceLT, Int.reduceLE, List.isEmpty_cons, Int.reduceToNat, UInt8.reduceOfNat, Int.reduceBEq, Int.reduceNe, instBEqOfDecidableEq]
      by_cases h0 : n = 0
      · have b2 : decide (n = 0) = true := by simpa using h0
        simp only [b2, h4 h0, h5, hw, ev_First, ev_Later, lg_xmllex_nameOf_0, norm, go_sem, Nat.reduceBEq, Nat.reduceLeDiff, Nat.reduceAdd, Nat.reduceSub, Nat.reduceMul, Nat.reduceEqDiff, Nat.reduceLT, ↓reduceIte, eq_self, reduceCtorEq, List.getD_nil, Bool.true_or, Bool.or_true, Bool.and_false, Bool.false_and, Int.reduceLT, Int.reduceLE, List.isEmpty_cons, Int.reduceToNat, UInt8.reduceOfNat, Int.reduceBEq, Int.reduceNe, instBEqOfDecidableEq]
      · have b2 : decide (n = 0) = false := by simpa using h0
        simp only [b2, h5, hw, ev_First, ev_Later, lg_xmllex_nameOf_0, norm, go_sem, Nat.reduceBEq, Nat.reduceLeDiff, Nat.reduceAdd, Nat.reduceSub, Nat.reduceMul, Nat.reduceEqDiff, Nat.reduceLT, ↓reduceIte, eq_self, reduceCtorEq, List.getD_nil, Bool.true_or, Bool.or_true, Bool.and_false, Bool.false_and, Int.reduceLT, Int.reduceLE, List.isEmpty_cons, Int.reduceToNat, UInt8.reduceOfNat, Int.reduceBEq, Int.reduceNe, instBEqOfDecidableEq]
theorem ev_nameOf (z : Bool) (l : List UInt8) (hl : l.length ≤ 1048576) : ev' f_xmllex_nameOf [.im (.by_ z l)] [] = some (.ret [.im (.by_ z (l.take (nmB l)))] []) := by
  rw [g_xmllex_nameOf rfl]
  have h1 := lp_nameOf z l hl (l.length + 1) 0 (by omega) (by omega)
  rw [Int.natCast_zero] at h1
  simp only [c_xmllex_nameOf, lg_xmllex_nameOf_0, norm, h1, go_sem, Nat.reduceBEq, Nat.reduceLeDiff, Nat.reduceAdd, Nat.reduceSub, Nat.reduceMul, Nat.reduceEqDiff, Nat.reduceLT, ↓reduceIte, eq_self, reduceCtorEq, List.getD_nil, Bool.true_or, Bool.or_true, Bool.and_false, Bool.false_and, Int.reduceLT, Int.reduceLE, List.isEmpty_cons, Int.reduceToNat, UInt8.reduceOfNat, Int.reduceBEq, Int.reduceNe, instBEqOfDecidableEq]
  rfl
end Go.Proofs.Av
