/- xmllex: full names, blanks, what a text begins with; comments, instructions. -/
import Derived.Test.YtcfjcoglhimdeaaDoorXLex1
set_option linter.unusedSimpArgs false
set_option linter.unusedVariables false
namespace Go.Proofs.Av
attribute [local congr] ifB_congr andThen_congr bind_congr' fend_congr guarded_congr branch_congr behind_congr again_congr
set_option maxHeartbeats 1000000
set_option linter.unusedSimpArgs false
set_option linter.unusedVariables false

def fullB (l : List UInt8) : Nat := if nmB l = 0 ∨ nmB l = l.length ∨ l.getD (nmB l) 0 ≠ 58 then nmB l else if nmB (l.drop (nmB l + 1)) = 0 then nmB l else nmB l + 1 + nmB (l.drop (nmB l + 1))
theorem fullB_le (l : List UInt8) : fullB l ≤ l.length := by
  unfold fullB
  have h1 := nmB_le l
  have h2 := nmB_le (l.drop (nmB l + 1))
  rw [List.length_drop] at h2
  split
  · exact h1
  · rename_i hn
    simp only [not_or] at hn
    split <;> omega
theorem take_len {l : List UInt8} {n : Nat} (h : n ≤ l.length) : (l.take n).length = n := by rw [List.length_take]; omega
theorem lt_dec {a b : Nat} (h : a < b) : decide ((a : Int) < (b : Int)) = true := by simpa using h
theorem eq_t {a b : Nat} (h : a = b) : (((a : Nat) : Int) == ((b : Nat) : Int)) = true := by subst h; exact beq_self_eq_true _
theorem eq_f {a b : Nat} (h : a ≠ b) : (((a : Nat) : Int) == ((b : Nat) : Int)) = false := beq_false_of_ne (by omega)
theorem u8_eq (x : UInt8) (n : Nat) (h : n < 256) : (((x.toNat : Nat) : Int) == (n : Int)) = decide (x = UInt8.ofNat n) := by
  rw [Bool.eq_iff_iff]
  simp only [beq_iff_eq, decide_eq_true_eq]
  constructor
  · intro e
    have : x.toNat = n := by omega
    apply UInt8.toNat_inj.1
    simp [this]
    omega
  · rintro rfl
    simp
    omega
theorem ev_fullName (z : Bool) (l : List UInt8) (hl : l.length ≤ 1048576) : ev' f_xmllex_fullName [.im (.by_ z l)] [] = some (.ret [.im (.by_ z (l.take (fullB l)))] []) := by
  rw [g_xmllex_fullName rfl]
  have h1 := nmB_le l
  have h2 := nmB_le (l.drop (nmB l + 1))
  have hl2 : (l.drop (nmB l + 1)).length ≤ 1048576 := by rw [List.length_drop]; omega
  rw [List.length_drop] at h2
  have t1 := take_len h1
  simp only [c_xmllex_fullName, ev_nameOf z l hl, t1, go_sem, Nat.reduceBEq, Nat.reduceLeDiff, Nat.reduceAdd, Nat.reduceSub, Nat.reduceMul, Nat.reduceEqDiff, Nat.reduceLT, ↓reduceIte, eq_self, reduceCtorEq, List.getD_nil, Bool.true_or, Bool.or_true, Bool.and_false, Bool.false_and, Int.reduceLT, Int.reduceLE, List.isEmpty_cons, Int.reduceToNat, UInt8.reduceOfNat, Int.reduceBEq, Int.reduceNe, instBEqOfDecidableEq]
  by_cases c1 : nmB l = 0 ∨ nmB l = l.length ∨ l.getD (nmB l) 0 ≠ 58
  · have e : fullB l = nmB l := by unfold fullB; rw [if_pos c1]
    rw [e]
    by_cases a1 : nmB l = 0
    · have b1 : (((nmB l : Nat) : Int) == 0) = true := by simpa using a1
      simp only [b1, go_sem, Nat.reduceBEq, Nat.reduceLeDiff, Nat.reduceAdd, Nat.reduceSub, Nat.reduceMul, Nat.reduceEqDiff, Nat.reduceLT, ↓reduceIte, eq_self, reduceCtorEq, List.getD_nil, Bool.true_or, Bool.or_true, Bool.and_false, Bool.false_and, Int.reduceLT, Int.reduceLE, List.isEmpty_cons, Int.reduceToNat, UInt8.reduceOfNat, Int.reduceBEq, Int.reduceNe, instBEqOfDecidableEq]
    · have b1 : (((nmB l : Nat) : Int) == 0) = false := by simpa using a1
      by_cases a2 : nmB l = l.length
      · have b2 : (((nmB l : Nat) : Int) == ((l.length : Nat) : Int)) = true := eq_t a2
        simp only [b1, b2, go_sem, Nat.reduceBEq, Nat.reduceLeDiff, Nat.reduceAdd, Nat.reduceSub, Nat.reduceMul, Nat.reduceEqDiff, Nat.reduceLT, ↓reduceIte, eq_self, reduceCtorEq, List.getD_nil, Bool.true_or, Bool.or_true, Bool.and_false, Bool.false_and, Int.reduceLT, Int.reduceLE, List.isEmpty_cons, Int.reduceToNat, UInt8.reduceOfNat, Int.reduceBEq, Int.reduceNe, instBEqOfDecidableEq]
      · have b2 : (((nmB l : Nat) : Int) == ((l.length : Nat) : Int)) = false := eq_f a2
        have b3 := lt_dec (show nmB l < l.length by omega)
        have b4 := ge0_dec (nmB l)
        have b5 : ((((l.getD (nmB l) 0).toNat : Nat) : Int) == 58) = false := by
          have := u8_eq (l.getD (nmB l) 0) 58 (by omega)
          rw [show ((58 : Nat) : Int) = 58 from rfl] at this
          rw [this]
          have := (c1.resolve_left a1).resolve_left a2
          simpa using this
        have b6 : ((((l.getD (nmB l) 0).toNat : Nat) : Int) != 58) = true := by simp only [bne, b5]; rfl
        simp only [b1, b2, b3, b4, b6, go_sem, Nat.reduceBEq, Nat.reduceLeDiff, Nat.reduceAdd, Nat.reduceSub, Nat.reduceMul, Nat.reduceEqDiff, Nat.reduceLT, ↓reduceIte, eq_self, reduceCtorEq, List.getD_nil, Bool.true_or, Bool.or_true, Bool.and_false, Bool.false_and, Int.reduceLT, Int.reduceLE, List.isEmpty_cons, Int.reduceToNat, UInt8.reduceOfNat, Int.reduceBEq, Int.reduceNe, instBEqOfDecidableEq]
  · simp only [not_or, ne_eq, Decidable.not_not] at c1
    obtain ⟨a1, a2, a3⟩ := c1
    have b1 : (((nmB l : Nat) : Int) == 0) = false := by simpa using a1
    have b2 : (((nmB l : Nat) : Int) == ((l.length : Nat) : Int)) = false := eq_f a2
    have b3 := lt_dec (show nmB l < l.length by omega)
    have b4 := ge0_dec (nmB l)
    have b6 : ((((l.getD (nmB l) 0).toNat : Nat) : Int) != 58) = false := by rw [a3]; rfl
    have hw : IntKind.wrap .i64 (((nmB l : Nat) : Int) + 1) = ((nmB l + 1 : Nat) : Int) := by rw [wrap_i64 (by omega) (by omega)]; omega
    have b7 := le_dec (show nmB l + 1 ≤ l.length by omega)
    have b8 := ge0_dec (nmB l + 1)
    have t2 := take_len (l := l.drop (nmB l + 1)) (n := nmB (l.drop (nmB l + 1))) (by rw [List.length_drop]; exact h2)
    simp only [b1, b2, b3, b4, b6, b7, b8, hw, ev_nameOf z _ hl2, t2, go_sem, Nat.reduceBEq, Nat.reduceLeDiff, Nat.reduceAdd, Nat.reduceSub, Nat.reduceMul, Nat.reduceEqDiff, Nat.reduceLT, ↓reduceIte, eq_self, reduceCtorEq, List.getD_nil, Bool.true_or, Bool.or_true, Bool.and_false, Bool.false_and, Int.reduceLT, Int.reduceLE, List.isEmpty_cons, Int.reduceToNat, UInt8.reduceOfNat, Int.reduceBEq, Int.reduceNe, instBEqOfDecidableEq]
    by_cases a4 : nmB (l.drop (nmB l + 1)) = 0
    · have b9 : (((nmB (l.drop (nmB l + 1)) : Nat) : Int) == 0) = true := by simpa using a4
      have e : fullB l = nmB l := by unfold fullB; rw [if_neg (by rintro (h | h | h) <;> contradiction), if_pos a4]
      rw [e]
      simp only [b9, go_sem, Nat.reduceBEq, Nat.reduceLeDiff, Nat.reduceAdd, Nat.reduceSub, Nat.reduceMul, Nat.reduceEqDiff, Nat.reduceLT, ↓reduceIte, eq_self, reduceCtorEq, List.getD_nil, Bool.true_or, Bool.or_true, Bool.and_false, Bool.false_and, Int.reduceLT, Int.reduceLE, List.isEmpty_cons, Int.reduceToNat, UInt8.reduceOfNat, Int.reduceBEq, Int.reduceNe, instBEqOfDecidableEq]
    · have b9 : (((nmB (l.drop (nmB l + 1)) : Nat) : Int) == 0) = false := by simpa using a4
      have e : fullB l = nmB l + 1 + nmB (l.drop (nmB l + 1)) := by unfold fullB; rw [if_neg (by rintro (h | h | h) <;> contradiction), if_neg a4]
      have hw2 : IntKind.wrap .i64 (((nmB l + 1 : Nat) : Int) + ((nmB (l.drop (nmB l + 1)) : Nat) : Int)) = ((nmB l + 1 + nmB (l.drop (nmB l + 1)) : Nat) : Int) := by rw [wrap_i64 (by omega) (by omega)]; omega
      have c7 := le_dec (show nmB l + 1 + nmB (l.drop (nmB l + 1)) ≤ l.length by omega)
      have c8 := ge0_dec (nmB l + 1 + nmB (l.drop (nmB l + 1)))
      rw [e]
      simp only [b9, hw, hw2, t2, c7, c8, go_sem, Nat.reduceBEq, Nat.reduceLeDiff, Nat.reduceAdd, Nat.reduceSub, Nat.reduceMul, Nat.reduceEqDiff, Nat.reduceLT, ↓reduceIte, eq_self, reduceCtorEq, List.getD_nil, Bool.true_or, Bool.or_true, Bool.and_false, Bool.false_and, Int.reduceLT, Int.reduceLE, List.isEmpty_cons, Int.reduceToNat, UInt8.reduceOfNat, Int.reduceBEq, Int.reduceNe, instBEqOfDecidableEq]
def TL (l : List UInt8) : List UInt8 := Lib.trimLeftS l [32, 9, 10, 13]
theorem ev_trimmed (z : Bool) (l : List UInt8) : ev' f_xmllex_trimmed [.im (.by_ z l)] [] = some (.ret [.im (.by_ (TL l).isEmpty (TL l))] []) := by
  rw [g_xmllex_trimmed rfl]
  simp only [c_xmllex_trimmed, ev_TrimLeft, go_sem, Nat.reduceBEq, Nat.reduceLeDiff, Nat.reduceAdd, Nat.reduceSub, Nat.reduceMul, Nat.reduceEqDiff, Nat.reduceLT, ↓reduceIte, eq_self, reduceCtorEq, List.getD_nil, Bool.true_or, Bool.or_true, Bool.and_false, Bool.false_and, Int.reduceLT, Int.reduceLE, List.isEmpty_cons, Int.reduceToNat, UInt8.reduceOfNat, Int.reduceBEq, Int.reduceNe, instBEqOfDecidableEq]
  rfl
abbrev scanO (z : Bool) (l : List UInt8) (e : Int) : Obs := [(0, .box [.im (.by_ z l), .im (.i .i64 e)])]
theorem ev_take (z : Bool) (l t : List UInt8) (e : Int) : ev' f_xmllex_scan_take [.rf 0 0, .im (.s t)] (scanO z l e) = some (.ret [.im (.b (Lib.hasPrefix l t))] (scanO z (Lib.trimPrefix l t) e)) := by
  rw [g_xmllex_scan_take rfl]
  simp only [scanO, c_xmllex_scan_take, ev_CutPrefix, go_sem, Nat.reduceBEq, Nat.reduceLeDiff, Nat.reduceAdd, Nat.reduceSub, Nat.reduceMul, Nat.reduceEqDiff, Nat.reduceLT, ↓reduceIte, eq_self, reduceCtorEq, List.getD_nil, Bool.true_or, Bool.or_true, Bool.and_false, Bool.false_and, Int.reduceLT, Int.reduceLE, List.isEmpty_cons, Int.reduceToNat, UInt8.reduceOfNat, Int.reduceBEq, Int.reduceNe, instBEqOfDecidableEq]
theorem ev_blanks (z : Bool) (l : List UInt8) (e : Int) : ev' f_xmllex_scan_blanks [.rf 0 0] (scanO z l e) = some (.ret [.im (.b (decide ((TL l).length < l.length)))] (scanO (TL l).isEmpty (TL l) e)) := by
  rw [g_xmllex_scan_blanks rfl]
  have h : decide (((TL l).length : Int) < (l.length : Int)) = decide ((TL l).length < l.length) := by simp
  simp only [scanO, c_xmllex_scan_blanks, ev_trimmed, h, go_sem, Nat.reduceBEq, Nat.reduceLeDiff, Nat.reduceAdd, Nat.reduceSub, Nat.reduceMul, Nat.reduceEqDiff, Nat.reduceLT, ↓reduceIte, eq_self, reduceCtorEq, List.getD_nil, Bool.true_or, Bool.or_true, Bool.and_false, Bool.false_and, Int.reduceLT, Int.reduceLE, List.isEmpty_cons, Int.reduceToNat, UInt8.reduceOfNat, Int.reduceBEq, Int.reduceNe, instBEqOfDecidableEq]
theorem ev_name (z : Bool) (l : List UInt8) (e : Int) (hl : l.length ≤ 1048576) : ev' f_xmllex_scan_name [.rf 0 0] (scanO z l e) = some (.ret [.im (.s (l.take (fullB l)))] (scanO z (l.drop (fullB l)) e)) := by
  rw [g_xmllex_scan_name rfl]
  have t1 := take_len (fullB_le l)
  have b3 := le_dec (fullB_le l)
  have b4 := ge0_dec (fullB l)
  simp only [scanO, c_xmllex_scan_name, ev_fullName z l hl, t1, b3, b4, go_sem, Nat.reduceBEq, Nat.reduceLeDiff, Nat.reduceAdd, Nat.reduceSub, Nat.reduceMul, Nat.reduceEqDiff, Nat.reduceLT, ↓reduceIte, eq_self, reduceCtorEq, List.getD_nil, Bool.true_or, Bool.or_true, Bool.and_false, Bool.false_and, Int.reduceLT, Int.reduceLE, List.isEmpty_cons, Int.reduceToNat, UInt8.reduceOfNat, Int.reduceBEq, Int.reduceNe, instBEqOfDecidableEq]
theorem ev_is (z : Bool) (l t : List UInt8) (e : Int) : ev' f_xmllex_scan_token_1 [.im (.s t), .rf 0 0] [(0, .box [.rf 1 0]), (1, .box [.im (.by_ z l), .im (.i .i64 e)])] = some (.ret [.im (.b (Lib.hasPrefix l t))] [(0, .box [.rf 1 0]), (1, .box [.im (.by_ z l), .im (.i .i64 e)])]) := by
  rw [g_xmllex_scan_token_1 rfl]
  simp only [c_xmllex_scan_token_1, ev_HasPrefix, go_sem, Nat.reduceBEq, Nat.reduceLeDiff, Nat.reduceAdd, Nat.reduceSub, Nat.reduceMul, Nat.reduceEqDiff, Nat.reduceLT, ↓reduceIte, eq_self, reduceCtorEq, List.getD_nil, Bool.true_or, Bool.or_true, Bool.and_false, Bool.false_and, Int.reduceLT, Int.reduceLE, List.isEmpty_cons, Int.reduceToNat, UInt8.reduceOfNat, Int.reduceBEq, Int.reduceNe, instBEqOfDecidableEq]
def dash2 : List UInt8 := [45, 45]
def commentB (l : List UInt8) : Int := if Lib.index (l.drop 4) [45, 45] < 0 then 0 else if Lib.hasPrefix (l.drop (4 + (Lib.index (l.drop 4) [45, 45]).toNat)) [45, 45, 62] = false then 0 else Lib.index (l.drop 4) [45, 45] + 7
theorem ev_comment (z : Bool) (l : List UInt8) (hl : l.length ≤ 1048576) (h4 : 4 ≤ l.length) : ev' f_xmllex_comment [.im (.by_ z l)] [] = some (.ret [.im (.i .i64 (commentB l))] []) := by
  rw [g_xmllex_comment rfl]
  have hl2 : (l.drop 4).length ≤ 1048576 := by rw [List.length_drop]; omega
  have a1 : decide ((4 : Int) ≤ (l.length : Int)) = true := by simp; omega
  have a0 : decide ((0 : Int) ≤ 4) = true := rfl
  have e4 : (4 : Int).toNat = 4 := rfl
  unfold commentB
  by_cases hn : Lib.index (l.drop 4) [45, 45] < 0
  · have b1 : decide (Lib.index (l.drop 4) [45, 45] < 0) = true := by simpa using hn
    simp only [c_xmllex_comment, a0, a1, e4, ev_Index z _ (l.drop 4) _ hl2, b1, hn, go_sem, Nat.reduceBEq, Nat.reduceLeDiff, Nat.reduceAdd, Nat.reduceSub, Nat.reduceMul, Nat.reduceEqDiff, Nat.reduceLT, ↓reduceIte, eq_self, reduceCtorEq, List.getD_nil, Bool.true_or, Bool.or_true, Bool.and_false, Bool.false_and, Int.reduceLT, Int.reduceLE, List.isEmpty_cons, Int.reduceToNat, UInt8.reduceOfNat, Int.reduceBEq, Int.reduceNe, instBEqOfDecidableEq]
  · have b1 : decide (Lib.index (l.drop 4) [45, 45] < 0) = false := by simpa using hn
    have hr := Lib.index_room (l.drop 4) [45, 45] (by omega)
    rw [List.length_drop] at hr
    simp only [List.length_cons, List.length_nil] at hr
    obtain ⟨n, hi⟩ : ∃ n : Nat, Lib.index (l.drop 4) [45, 45] = n := ⟨(Lib.index (l.drop 4) [45, 45]).toNat, by omega⟩
    rw [hi] at b1 hr hn ⊢
    have hw : IntKind.wrap .i64 (4 + (n : Int)) = ((4 + n : Nat) : Int) := by rw [wrap_i64 (by omega) (by omega)]; omega
    have hw2 : IntKind.wrap .i64 ((n : Int) + 7) = (n : Int) + 7 := by rw [wrap_i64 (by omega) (by omega)]
    have b2 := le_dec (show 4 + n ≤ l.length by omega)
    have b3 := ge0_dec (4 + n)
    cases hp : Lib.hasPrefix (l.drop (4 + n)) [45, 45, 62] with
    | true => simp only [c_xmllex_comment, a0, a1, e4, ev_Index z _ (l.drop 4) _ hl2, hi, b1, hn, hw, hw2, b2, b3, ev_HasPrefix, hp, go_sem, Nat.reduceBEq, Nat.reduceLeDiff, Nat.reduceAdd, Nat.reduceSub, Nat.reduceMul, Nat.reduceEqDiff, Nat.reduceLT, ↓reduceIte, eq_self, reduceCtorEq, List.getD_nil, Bool.true_or, Bool.or_true, Bool.and_false, Bool.false_and, Int.reduceLT, Int.reduceLE, List.isEmpty_cons, Int.reduceToNat, UInt8.reduceOfNat, Int.reduceBEq, Int.reduceNe, instBEqOfDecidableEq]
    | false => simp only [c_xmllex_comment, a0, a1, e4, ev_Index z _ (l.drop 4) _ hl2, hi, b1, hn, hw, hw2, b2, b3, ev_HasPrefix, hp, go_sem, Nat.reduceBEq, Nat.reduceLeDiff, Nat.reduceAdd, Nat.reduceSub, Nat.reduceMul, Nat.reduceEqDiff, Nat.reduceLT, ↓reduceIte, eq_self, reduceCtorEq, List.getD_nil, Bool.true_or, Bool.or_true, Bool.and_false, Bool.false_and, Int.reduceLT, Int.reduceLE, List.isEmpty_cons, Int.reduceToNat, UInt8.reduceOfNat, Int.reduceBEq, Int.reduceNe, instBEqOfDecidableEq]
def instrB (l : List UInt8) : Int :=
  if nmB (l.drop 2) = 0 ∨ Lib.index (l.drop (2 + nmB (l.drop 2))) [63, 62] < 0 ∨ (0 < Lib.index (l.drop (2 + nmB (l.drop 2))) [63, 62] ∧ spaceB (((l.drop (2 + nmB (l.drop 2))).getD 0 0).toNat : Int) = false) then 0
  else 2 + (nmB (l.drop 2) : Int) + Lib.index (l.drop (2 + nmB (l.drop 2))) [63, 62] + 2
theorem ev_instruction (z : Bool) (l : List UInt8) (hl : l.length ≤ 1048576) (h2 : 2 ≤ l.length) : ev' f_xmllex_instruction [.im (.by_ z l)] [] = some (.ret [.im (.i .i64 (instrB l))] []) := by
  rw [g_xmllex_instruction rfl]
  have hl2 : (l.drop 2).length ≤ 1048576 := by rw [List.length_drop]; omega
  have hk := nmB_le (l.drop 2)
  have t1 := take_len hk
  have hk' := hk
  rw [List.length_drop] at hk'
  have a1 : decide ((2 : Int) ≤ (l.length : Int)) = true := by simp; omega
  have a0 : decide ((0 : Int) ≤ 2) = true := rfl
  have e2 : (2 : Int).toNat = 2 := rfl
  unfold instrB
  obtain ⟨k, hkk⟩ : ∃ k, nmB (l.drop 2) = k := ⟨_, rfl⟩
  rw [hkk] at hk hk' t1 ⊢
  have hw : IntKind.wrap .i64 (2 + (k : Int)) = ((2 + k : Nat) : Int) := by rw [wrap_i64 (by omega) (by omega)]; omega
  have b2 := le_dec (show 2 + k ≤ l.length by omega)
  have b3 := ge0_dec (2 + k)
  have hl3 : (l.drop (2 + k)).length ≤ 1048576 := by rw [List.length_drop]; omega
  have hge := Lib.index_ge (l.drop (2 + k)) [63, 62]
  have hroom := Lib.index_room (l.drop (2 + k)) [63, 62]
  have hlen : (l.drop (2 + k)).length = l.length - (2 + k) := List.length_drop
  simp only [List.length_cons, List.length_nil] at hroom
  have hi := ev_Index z false (l.drop (2 + k)) [63, 62] hl3
  generalize Lib.index (l.drop (2 + k)) [63, 62] = n at *
  simp only [c_xmllex_instruction, a0, a1, e2, ev_nameOf z _ hl2, hkk, t1, hw, b2, b3, hi, go_sem, Nat.reduceBEq, Nat.reduceLeDiff, Nat.reduceAdd, Nat.reduceSub, Nat.reduceMul, Nat.reduceEqDiff, Nat.reduceLT, ↓reduceIte, eq_self, reduceCtorEq, List.getD_nil, Bool.true_or, Bool.or_true, Bool.and_false, Bool.false_and, Int.reduceLT, Int.reduceLE, List.isEmpty_cons, Int.reduceToNat, UInt8.reduceOfNat, Int.reduceBEq, Int.reduceNe, instBEqOfDecidableEq]
  by_cases c1 : k = 0
  · have d1 : (((k : Nat) : Int) == 0) = true := by simpa using c1
    rw [if_pos (.inl c1)]
    simp only [d1, go_sem, Nat.reduceBEq, Nat.reduceLeDiff, Nat.reduceAdd, Nat.reduceSub, Nat.reduceMul, Nat.reduceEqDiff, Nat.reduceLT, ↓reduceIte, eq_self, reduceCtorEq, List.getD_nil, Bool.true_or, Bool.or_true, Bool.and_false, Bool.false_and, Int.reduceLT, Int.reduceLE, List.isEmpty_cons, Int.reduceToNat, UInt8.reduceOfNat, Int.reduceBEq, Int.reduceNe, instBEqOfDecidableEq]
  · have d1 : (((k : Nat) : Int) == 0) = false := by simpa using c1
    by_cases c2 : n < 0
    · have d2 : decide (n < 0) = true := by simpa using c2
      rw [if_pos (.inr (.inl c2))]
      simp only [d1, d2, go_sem, Nat.reduceBEq, Nat.reduceLeDiff, Nat.reduceAdd, Nat.reduceSub, Nat.reduceMul, Nat.reduceEqDiff, Nat.reduceLT, ↓reduceIte, eq_self, reduceCtorEq, List.getD_nil, Bool.true_or, Bool.or_true, Bool.and_false, Bool.false_and, Int.reduceLT, Int.reduceLE, List.isEmpty_cons, Int.reduceToNat, UInt8.reduceOfNat, Int.reduceBEq, Int.reduceNe, instBEqOfDecidableEq]
    · have d2 : decide (n < 0) = false := by simpa using c2
      have hroom' := hroom (by omega)
      rw [hlen] at hroom'
      have hw3 : IntKind.wrap .i64 (((2 + k : Nat) : Int) + n) = ((2 + k : Nat) : Int) + n := by rw [wrap_i64 (by omega) (by omega)]
      have hw4 : IntKind.wrap .i64 (((2 + k : Nat) : Int) + n + 2) = 2 + (k : Int) + n + 2 := by rw [wrap_i64 (by omega) (by omega)]; omega
      by_cases c3 : 0 < n
      · have d3 : decide (0 < n) = true := by simpa using c3
        have d4 : decide ((0 : Int) < ((l.drop (2 + k)).length : Int)) = true := by rw [hlen]; simp; omega
        have hw5 : IntKind.wrap .i64 (((l.drop (2 + k)).getD 0 0).toNat : Int) = (((l.drop (2 + k)).getD 0 0).toNat : Int) := by
          have := ((l.drop (2 + k)).getD 0 0).toNat_lt
          rw [wrap_i64 (by omega) (by omega)]
        cases hs : spaceB (((l.drop (2 + k)).getD 0 0).toNat : Int) with
        | true =>
          rw [if_neg (by rintro (h | h | ⟨_, h⟩) <;> first | contradiction | cases h)]
          simp only [d1, d2, d3, d4, hw, hw3, hw4, hw5, hs, ev_Space, decide_true, Int.toNat_zero, Int.reduceLE, go_sem, Nat.reduceBEq, Nat.reduceLeDiff, Nat.reduceAdd, Nat.reduceSub, Nat.reduceMul, Nat.reduceEqDiff, Nat.reduceLT, ↓reduceIte, eq_self, reduceCtorEq, List.getD_nil, Bool.true_or, Bool.or_true, Bool.and_false, Bool.false_and, Int.reduceLT, Int.reduceLE, List.isEmpty_cons, Int.reduceToNat, UInt8.reduceOfNat, Int.reduceBEq, Int.reduceNe, instBEqOfDecidableEq]
        | false =>
          rw [if_pos (.inr (.inr ⟨c3, rfl⟩))]
          simp only [d1, d2, d3, d4, hw, hw3, hw4, hw5, hs, ev_Space, decide_true, Int.toNat_zero, Int.reduceLE, go_sem, Nat.reduceBEq, Nat.reduceLeDiff, Nat.reduceAdd, Nat.reduceSub, Nat.reduceMul, Nat.reduceEqDiff, Nat.reduceLT, ↓reduceIte, eq_self, reduceCtorEq, List.getD_nil, Bool.true_or, Bool.or_true, Bool.and_false, Bool.false_and, Int.reduceLT, Int.reduceLE, List.isEmpty_cons, Int.reduceToNat, UInt8.reduceOfNat, Int.reduceBEq, Int.reduceNe, instBEqOfDecidableEq]
      · have d3 : decide (0 < n) = false := by simpa using c3
        rw [if_neg (by rintro (h | h | ⟨h, _⟩) <;> contradiction)]
        simp only [d1, d2, d3, hw, hw3, hw4, go_sem, Nat.reduceBEq, Nat.reduceLeDiff, Nat.reduceAdd, Nat.reduceSub, Nat.reduceMul, Nat.reduceEqDiff, Nat.reduceLT, ↓reduceIte, eq_self, reduceCtorEq, List.getD_nil, Bool.true_or, Bool.or_true, Bool.and_false, Bool.false_and, Int.reduceLT, Int.reduceLE, List.isEmpty_cons, Int.reduceToNat, UInt8.reduceOfNat, Int.reduceBEq, Int.reduceNe, instBEqOfDecidableEq]
end Go.Proofs.Av
