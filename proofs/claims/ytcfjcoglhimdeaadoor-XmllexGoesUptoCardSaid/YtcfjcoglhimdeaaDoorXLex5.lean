/- xmllex: references resolved. -/
import Derived.Test.YtcfjcoglhimdeaaDoorXLex4
set_option linter.unusedSimpArgs false
set_option linter.unusedVariables false
namespace Go.Proofs.Av
attribute [local congr] ifB_congr andThen_congr bind_congr' fend_congr guarded_congr branch_congr behind_congr again_congr
set_option maxHeartbeats 1000000
set_option linter.unusedSimpArgs false
set_option linter.unusedVariables false

theorem cut_len (l p : List UInt8) : (Lib.cut l p).1.length ≤ l.length ∧ (Lib.cut l p).2.1.length ≤ l.length ∧ ((Lib.cut l p).2.2 = true → (Lib.cut l p).1.length + p.length + (Lib.cut l p).2.1.length ≤ l.length) := by
  unfold Lib.cut
  split
  · rename_i h
    have := Lib.index_room l p h
    simp only [List.length_take, List.length_drop]
    omega
  · simp
theorem ev_Write0 (z : Bool) (p : List UInt8) (h : p.length ≤ 1048576) : ev' f_bytes_Buffer_Write [.rf 0 0, .im (.by_ z p)] [(0, .box [.im (.by_ true []), .im (.i .i64 0), .im (.i .i8 0)])] =
    some (.ret [.im (.i .i64 (p.length : Int)), .un] [(0, .box [.ow 1, .im (.i .i64 0), .im (.i .i8 0)]), (1, .row t_uint8 (.by_ false p))]) :=
  ev_lib rfl (by
    have h1 : decide (p.length ≤ 1048576) = true := by simpa using h
    simp only [l_Write, h1, ifB_true])
theorem ev_Write1 (z : Bool) (l p : List UInt8) (h : p.length ≤ 1048576) (h2 : l.length ≤ 67108864) : ev' f_bytes_Buffer_Write [.rf 0 0, .im (.by_ z p)] [(0, .box [.ow 1, .im (.i .i64 0), .im (.i .i8 0)]), (1, .row t_uint8 (.by_ false l))] =
    some (.ret [.im (.i .i64 (p.length : Int)), .un] [(0, .box [.ow 2, .im (.i .i64 0), .im (.i .i8 0)]), (2, .row t_uint8 (.by_ false (l ++ p)))]) :=
  ev_lib rfl (by
    have h1 : decide (p.length ≤ 1048576) = true := by simpa using h
    have h3 : decide (l.length ≤ 67108864) = true := by simpa using h2
    have h4 : (t_uint8 == t_uint8) = true := rfl
    simp only [l_Write, h1, h3, h4, Bool.and_self, ifB_true])
theorem ev_String (l : List UInt8) (h : l.length ≤ 67108864) : ev' f_bytes_Buffer_String [.rf 0 0] [(0, .box [.ow 1, .im (.i .i64 0), .im (.i .i8 0)]), (1, .row t_uint8 (.by_ false l))] =
    some (.ret [.im (.s l)] [(0, .box [.ow 1, .im (.i .i64 0), .im (.i .i8 0)]), (1, .row t_uint8 (.by_ false l))]) := ev_lib rfl (by
    have h3 : decide (l.length ≤ 67108864) = true := by simpa using h
    have h4 : (t_uint8 == t_uint8) = true := rfl
    simp only [l_String, h3, h4, Bool.and_self, ifB_true])
/-- What is resolved of the rest, behind what stands already; with an error: where. -/
def rsvF (L : Nat) (v : Bool) : Nat → List UInt8 → List UInt8 → List UInt8 × Int × Int
  | 0, _, acc => (acc, 0, 0)
  | f + 1, r, acc => if (Lib.cut r [38]).2.2 = false then (acc ++ linesB (Lib.cut r [38]).1 v, 0, 0)
    else if (Lib.cut (Lib.cut r [38]).2.1 [59]).2.2 = false ∨ (namedB (Lib.cut (Lib.cut r [38]).2.1 [59]).1).2 = false then ([], (L : Int) - (Lib.cut r [38]).2.1.length - 1, 13)
    else rsvF L v f (Lib.cut (Lib.cut r [38]).2.1 [59]).2.1 (acc ++ linesB (Lib.cut r [38]).1 v ++ encB (namedB (Lib.cut (Lib.cut r [38]).2.1 [59]).1).1)
theorem lp_resolve1 (zb : Bool) (b : List UInt8) (v : Bool) (hb : b.length ≤ 1048576) : ∀ (f : Nat) (z : Bool) (r acc : List UInt8), r.length < f → r.length ≤ b.length → acc.length + 4 * r.length ≤ 4194304 →
    ∃ s, nx_xmllex_resolve_0 ⟨[(0, .im (.by_ zb b)), (1, .im (.b v)), (7, .rf 1007 0), (9, .im (.by_ z r))], [(1007, .box [.ow 164448, .im (.i .i64 0), .im (.i .i8 0)]), (164448, .row t_uint8 (.by_ false acc))]⟩ =
      some (.rt, ⟨[(4, .im (.s (rsvF b.length v f r acc).1)), (5, .im (.i .i64 (rsvF b.length v f r acc).2.1)), (6, .im (.i .i64 (rsvF b.length v f r acc).2.2))], s⟩) := by
  intro f
  induction f with
  | zero => intro z r acc h1 h2; omega
  | succ f ih =>
    intro z r acc h1 h2 h3
    rw [nx_xmllex_resolve_0]
    have c1 := cut_len r [38]
    have cc1 := fun z => ev_Cut z false r [38] (by omega)
    have ln := fun z => ev_lines z (Lib.cut r [38]).1 v (by omega)
    have lnl := linesB_len (Lib.cut r [38]).1 v
    have w1 := fun z => ev_Write1 z acc (linesB (Lib.cut r [38]).1 v) (by omega) (by omega)
    have sg := ev_String (acc ++ linesB (Lib.cut r [38]).1 v) (by rw [List.length_append]; omega)
    have cc2 := fun z => ev_Cut z false (Lib.cut r [38]).2.1 [59] (by omega)
    have c2 := cut_len (Lib.cut r [38]).2.1 [59]
    have nm := ev_named (Lib.cut (Lib.cut r [38]).2.1 [59]).1 (by omega)
    cases k1 : (Lib.cut r [38]).2.2 with
    | false =>
      have hr : rsvF b.length v (f + 1) r acc = (acc ++ linesB (Lib.cut r [38]).1 v, 0, 0) := by rw [rsvF, if_pos k1]
      rw [hr]
      simp only [b_xmllex_resolve_0, cc1, ln, w1, k1, sg, go_sem, Nat.reduceBEq, Nat.reduceLeDiff, Nat.reduceAdd, Nat.reduceSub, Nat.reduceMul, Nat.reduceEqDiff, Nat.reduceLT, ↓reduceIte, eq_self, reduceCtorEq, List.getD_nil, Bool.true_or, Bool.or_true, Bool.and_false, Bool.false_and, Int.reduceLT, Int.reduceLE, List.isEmpty_cons, Int.reduceToNat, UInt8.reduceOfNat, Int.reduceBEq, Int.reduceNe, instBEqOfDecidableEq]
      exact ⟨_, rfl⟩
    | true =>
      have c1' := c1.2.2 k1
      simp only [List.length_cons, List.length_nil] at c1'
      have a1 : IntKind.wrap .i64 ((b.length : Int) - ((Lib.cut r [38]).2.1.length : Int)) = (b.length : Int) - ((Lib.cut r [38]).2.1.length : Int) := by rw [wrap_i64 (by omega) (by omega)]
      have a2 : IntKind.wrap .i64 ((b.length : Int) - ((Lib.cut r [38]).2.1.length : Int) - 1) = (b.length : Int) - ((Lib.cut r [38]).2.1.length : Int) - 1 := by rw [wrap_i64 (by omega) (by omega)]
      cases k2 : (Lib.cut (Lib.cut r [38]).2.1 [59]).2.2 with
      | false =>
        have hr : rsvF b.length v (f + 1) r acc = ([], (b.length : Int) - (Lib.cut r [38]).2.1.length - 1, 13) := by rw [rsvF, if_neg (by rw [k1]; simp), if_pos (.inl k2)]
        rw [hr]
        simp only [b_xmllex_resolve_0, cc1, ln, w1, k1, k2, a1, a2, cc2, nm, go_sem, Nat.reduceBEq, Nat.reduceLeDiff, Nat.reduceAdd, Nat.reduceSub, Nat.reduceMul, Nat.reduceEqDiff, Nat.reduceLT, ↓reduceIte, eq_self, reduceCtorEq, List.getD_nil, Bool.true_or, Bool.or_true, Bool.and_false, Bool.false_and, Int.reduceLT, Int.reduceLE, List.isEmpty_cons, Int.reduceToNat, UInt8.reduceOfNat, Int.reduceBEq, Int.reduceNe, instBEqOfDecidableEq]
        exact ⟨_, rfl⟩
      | true =>
        have c2' := c2.2.2 k2
        simp only [List.length_cons, List.length_nil] at c2'
        cases k3 : (namedB (Lib.cut (Lib.cut r [38]).2.1 [59]).1).2 with
        | false =>
          have hr : rsvF b.length v (f + 1) r acc = ([], (b.length : Int) - (Lib.cut r [38]).2.1.length - 1, 13) := by rw [rsvF, if_neg (by rw [k1]; simp), if_pos (.inr k3)]
          rw [hr]
          simp only [b_xmllex_resolve_0, cc1, ln, w1, k1, k2, k3, a1, a2, cc2, nm, go_sem, Nat.reduceBEq, Nat.reduceLeDiff, Nat.reduceAdd, Nat.reduceSub, Nat.reduceMul, Nat.reduceEqDiff, Nat.reduceLT, ↓reduceIte, eq_self, reduceCtorEq, List.getD_nil, Bool.true_or, Bool.or_true, Bool.and_false, Bool.false_and, Int.reduceLT, Int.reduceLE, List.isEmpty_cons, Int.reduceToNat, UInt8.reduceOfNat, Int.reduceBEq, Int.reduceNe, instBEqOfDecidableEq]
          exact ⟨_, rfl⟩
        | true =>
          have hr : rsvF b.length v (f + 1) r acc = rsvF b.length v f (Lib.cut (Lib.cut r [38]).2.1 [59]).2.1 (acc ++ linesB (Lib.cut r [38]).1 v ++ encB (namedB (Lib.cut (Lib.cut r [38]).2.1 [59]).1).1) := by
            rw [rsvF, if_neg (by rw [k1]; simp), if_neg (by rw [k2, k3]; simp)]
          have el := encB_len (namedB (Lib.cut (Lib.cut r [38]).2.1 [59]).1).1
          have w2 := fun z => ev_Write1 z (acc ++ linesB (Lib.cut r [38]).1 v) (encB (namedB (Lib.cut (Lib.cut r [38]).2.1 [59]).1).1) (by omega) (by rw [List.length_append]; omega)
          obtain ⟨s, hs⟩ := ih false (Lib.cut (Lib.cut r [38]).2.1 [59]).2.1 (acc ++ linesB (Lib.cut r [38]).1 v ++ encB (namedB (Lib.cut (Lib.cut r [38]).2.1 [59]).1).1) (by omega) (by omega) (by rw [List.length_append, List.length_append]; omega)
          refine ⟨s, ?_⟩
          rw [hr, ← hs]
          simp only [b_xmllex_resolve_0, cc1, ln, w1, w2, k1, k2, k3, a1, a2, cc2, nm, ev_Encode, lg_xmllex_resolve_0, norm, go_sem, Nat.reduceBEq, Nat.reduceLeDiff, Nat.reduceAdd, Nat.reduceSub, Nat.reduceMul, Nat.reduceEqDiff, Nat.reduceLT, ↓reduceIte, eq_self, reduceCtorEq, List.getD_nil, Bool.true_or, Bool.or_true, Bool.and_false, Bool.false_and, Int.reduceLT, Int.reduceLE, List.isEmpty_cons, Int.reduceToNat, UInt8.reduceOfNat, Int.reduceBEq, Int.reduceNe, instBEqOfDecidableEq]
theorem lp_resolve0 (zb : Bool) (b : List UInt8) (v : Bool) (hb : b.length ≤ 1048576) (f : Nat) (z : Bool) (r : List UInt8) (h1 : r.length < f + 1) (h2 : r.length ≤ b.length) :
    ∃ s, nx_xmllex_resolve_0 ⟨[(0, .im (.by_ zb b)), (1, .im (.b v)), (7, .rf 1007 0), (9, .im (.by_ z r))], [(1007, .box [.im (.by_ true []), .im (.i .i64 0), .im (.i .i8 0)])]⟩ =
      some (.rt, ⟨[(4, .im (.s (rsvF b.length v (f + 1) r []).1)), (5, .im (.i .i64 (rsvF b.length v (f + 1) r []).2.1)), (6, .im (.i .i64 (rsvF b.length v (f + 1) r []).2.2))], s⟩) := by
  · have ih := lp_resolve1 zb b v hb f
    rw [nx_xmllex_resolve_0]
    have c1 := cut_len r [38]
    have cc1 := fun z => ev_Cut z false r [38] (by omega)
    have ln := fun z => ev_lines z (Lib.cut r [38]).1 v (by omega)
    have lnl := linesB_len (Lib.cut r [38]).1 v
    have w1 := fun z => ev_Write0 z (linesB (Lib.cut r [38]).1 v) (by omega)
    have sg := ev_String (linesB (Lib.cut r [38]).1 v) (by omega)
    have cc2 := fun z => ev_Cut z false (Lib.cut r [38]).2.1 [59] (by omega)
    have c2 := cut_len (Lib.cut r [38]).2.1 [59]
    have nm := ev_named (Lib.cut (Lib.cut r [38]).2.1 [59]).1 (by omega)
    cases k1 : (Lib.cut r [38]).2.2 with
    | false =>
      have hr : rsvF b.length v (f + 1) r [] = ([] ++ linesB (Lib.cut r [38]).1 v, 0, 0) := by rw [rsvF, if_pos k1]
      rw [hr]
      rw [List.nil_append]
      simp only [b_xmllex_resolve_0, cc1, ln, w1, k1, sg, go_sem, Nat.reduceBEq, Nat.reduceLeDiff, Nat.reduceAdd, Nat.reduceSub, Nat.reduceMul, Nat.reduceEqDiff, Nat.reduceLT, ↓reduceIte, eq_self, reduceCtorEq, List.getD_nil, Bool.true_or, Bool.or_true, Bool.and_false, Bool.false_and, Int.reduceLT, Int.reduceLE, List.isEmpty_cons, Int.reduceToNat, UInt8.reduceOfNat, Int.reduceBEq, Int.reduceNe, instBEqOfDecidableEq]
      exact ⟨_, rfl⟩
    | true =>
      have c1' := c1.2.2 k1
      simp only [List.length_cons, List.length_nil] at c1'
      have a1 : IntKind.wrap .i64 ((b.length : Int) - ((Lib.cut r [38]).2.1.length : Int)) = (b.length : Int) - ((Lib.cut r [38]).2.1.length : Int) := by rw [wrap_i64 (by omega) (by omega)]
      have a2 : IntKind.wrap .i64 ((b.length : Int) - ((Lib.cut r [38]).2.1.length : Int) - 1) = (b.length : Int) - ((Lib.cut r [38]).2.1.length : Int) - 1 := by rw [wrap_i64 (by omega) (by omega)]
      cases k2 : (Lib.cut (Lib.cut r [38]).2.1 [59]).2.2 with
      | false =>
        have hr : rsvF b.length v (f + 1) r [] = ([], (b.length : Int) - (Lib.cut r [38]).2.1.length - 1, 13) := by rw [rsvF, if_neg (by rw [k1]; simp), if_pos (.inl k2)]
        rw [hr]
        simp only [b_xmllex_resolve_0, cc1, ln, w1, k1, k2, a1, a2, cc2, nm, go_sem, Nat.reduceBEq, Nat.reduceLeDiff, Nat.reduceAdd, Nat.reduceSub, Nat.reduceMul, Nat.reduceEqDiff, Nat.reduceLT, ↓reduceIte, eq_self, reduceCtorEq, List.getD_nil, Bool.true_or, Bool.or_true, Bool.and_false, Bool.false_and, Int.reduceLT, Int.reduceLE, List.isEmpty_cons, Int.reduceToNat, UInt8.reduceOfNat, Int.reduceBEq, Int.reduceNe, instBEqOfDecidableEq]
        exact ⟨_, rfl⟩
      | true =>
        have c2' := c2.2.2 k2
        simp only [List.length_cons, List.length_nil] at c2'
        cases k3 : (namedB (Lib.cut (Lib.cut r [38]).2.1 [59]).1).2 with
        | false =>
          have hr : rsvF b.length v (f + 1) r [] = ([], (b.length : Int) - (Lib.cut r [38]).2.1.length - 1, 13) := by rw [rsvF, if_neg (by rw [k1]; simp), if_pos (.inr k3)]
          rw [hr]
          simp only [b_xmllex_resolve_0, cc1, ln, w1, k1, k2, k3, a1, a2, cc2, nm, go_sem, Nat.reduceBEq, Nat.reduceLeDiff, Nat.reduceAdd, Nat.reduceSub, Nat.reduceMul, Nat.reduceEqDiff, Nat.reduceLT, ↓reduceIte, eq_self, reduceCtorEq, List.getD_nil, Bool.true_or, Bool.or_true, Bool.and_false, Bool.false_and, Int.reduceLT, Int.reduceLE, List.isEmpty_cons, Int.reduceToNat, UInt8.reduceOfNat, Int.reduceBEq, Int.reduceNe, instBEqOfDecidableEq]
          exact ⟨_, rfl⟩
        | true =>
          have hr : rsvF b.length v (f + 1) r [] = rsvF b.length v f (Lib.cut (Lib.cut r [38]).2.1 [59]).2.1 ([] ++ linesB (Lib.cut r [38]).1 v ++ encB (namedB (Lib.cut (Lib.cut r [38]).2.1 [59]).1).1) := by
            rw [rsvF, if_neg (by rw [k1]; simp), if_neg (by rw [k2, k3]; simp)]
          have el := encB_len (namedB (Lib.cut (Lib.cut r [38]).2.1 [59]).1).1
          have w2 := fun z => ev_Write1 z (linesB (Lib.cut r [38]).1 v) (encB (namedB (Lib.cut (Lib.cut r [38]).2.1 [59]).1).1) (by omega) (by omega)
          obtain ⟨s, hs⟩ := ih false (Lib.cut (Lib.cut r [38]).2.1 [59]).2.1 ([] ++ linesB (Lib.cut r [38]).1 v ++ encB (namedB (Lib.cut (Lib.cut r [38]).2.1 [59]).1).1) (by omega) (by omega) (by rw [List.length_append, List.length_append, List.length_nil]; omega)
          refine ⟨s, ?_⟩
          rw [hr, ← hs, List.nil_append]
          simp only [b_xmllex_resolve_0, cc1, ln, w1, w2, k1, k2, k3, a1, a2, cc2, nm, ev_Encode, lg_xmllex_resolve_0, norm, go_sem, Nat.reduceBEq, Nat.reduceLeDiff, Nat.reduceAdd, Nat.reduceSub, Nat.reduceMul, Nat.reduceEqDiff, Nat.reduceLT, ↓reduceIte, eq_self, reduceCtorEq, List.getD_nil, Bool.true_or, Bool.or_true, Bool.and_false, Bool.false_and, Int.reduceLT, Int.reduceLE, List.isEmpty_cons, Int.reduceToNat, UInt8.reduceOfNat, Int.reduceBEq, Int.reduceNe, instBEqOfDecidableEq]
def rsvB (b : List UInt8) (v : Bool) : List UInt8 × Int × Int := rsvF b.length v (b.length + 1) b []
theorem ev_resolve (z : Bool) (b : List UInt8) (v : Bool) (hb : b.length ≤ 1048576) : ev' f_xmllex_resolve [.im (.by_ z b), .im (.b v)] [] = some (.ret [.im (.s (rsvB b v).1), .im (.i .i64 (rsvB b v).2.1), .im (.i .i64 (rsvB b v).2.2)] []) := by
  rw [g_xmllex_resolve rfl]
  obtain ⟨s, hs⟩ := lp_resolve0 z b v hb b.length z b (by omega) (by omega)
  simp only [c_xmllex_resolve, lg_xmllex_resolve_0, norm, hs, go_sem, Nat.reduceBEq, Nat.reduceLeDiff, Nat.reduceAdd, Nat.reduceSub, Nat.reduceMul, Nat.reduceEqDiff, Nat.reduceLT, ↓reduceIte, eq_self, reduceCtorEq, List.getD_nil, Bool.true_or, Bool.or_true, Bool.and_false, Bool.false_and, Int.reduceLT, Int.reduceLE, List.isEmpty_cons, Int.reduceToNat, UInt8.reduceOfNat, Int.reduceBEq, Int.reduceNe, instBEqOfDecidableEq]
  rfl
end Go.Proofs.Av
