/- xmllex: tokens. -/
import Derived.Test.YtcfjcoglhimdeaaDoorXLex7
import Derived.Test.YtcfjcoglhimdeaaDoorXLex3
set_option linter.unusedSimpArgs false
set_option linter.unusedVariables false
namespace Go.Proofs.Av
attribute [local congr] ifB_congr andThen_congr bind_congr' fend_congr guarded_congr branch_congr behind_congr again_congr
set_option maxHeartbeats 1000000
set_option linter.unusedSimpArgs false
set_option linter.unusedVariables false

def zeroTok (l : List UInt8) (k e : Int) : TokR := ⟨k, [], [], false, [], l, e⟩
def tokenB (l : List UInt8) : TokR :=
  if l = [] then zeroTok l 0 0
  else if Lib.hasPrefix l [60, 33, 91, 67, 68, 65, 84, 65, 91] then literalB l
  else if Lib.hasPrefix l [60, 33, 68, 79, 67, 84, 89, 80, 69] then zeroTok l 0 12
  else if Lib.hasPrefix l [60, 47] then closingB l
  else if Lib.hasPrefix l [60] then openingB l
  else textB l
theorem ev_token (z : Bool) (l : List UInt8) (hl : l.length ≤ 1048576) :
    ∃ z', ev' f_xmllex_scan_token [.rf 0 0] (scanO z l 0) = some (.ret [tokV (tokenB l).kind (tokenB l).name (tokenB l).attrs.isEmpty (tokenB l).attrs (tokenB l).empty (tokenB l).text] (scanO z' (tokenB l).rest (tokenB l).err)) := by
  rw [g_xmllex_scan_token rfl]
  have ei := fun z l t e => ev_is z l t e
  simp only [scanO, tokV]
  unfold tokenB
  by_cases c0 : l = []
  · subst c0
    rw [if_pos rfl]
    refine ⟨z, ?_⟩
    simp only [c_xmllex_scan_token, go_sem, Nat.reduceBEq, Nat.reduceLeDiff, Nat.reduceAdd, Nat.reduceSub, Nat.reduceMul, Nat.reduceEqDiff, Nat.reduceLT, ↓reduceIte, eq_self, reduceCtorEq, List.getD_nil, Bool.true_or, Bool.or_true, Bool.and_false, Bool.false_and, Int.reduceLT, Int.reduceLE, List.isEmpty_cons, Int.reduceToNat, UInt8.reduceOfNat, Int.reduceBEq, Int.reduceNe, instBEqOfDecidableEq]
    try rfl
  · rw [if_neg c0]
    have d0 : ((l.length : Int) == 0) = false := by
      have : l.length ≠ 0 := fun h => c0 (List.length_eq_zero_iff.1 h)
      simp
      omega
    cases c1 : Lib.hasPrefix l [60, 33, 91, 67, 68, 65, 84, 65, 91] with
    | true =>
      rw [if_pos rfl]
      obtain ⟨z', h⟩ := ev_literal z l hl
      simp only [scanO, tokV] at h
      refine ⟨z', ?_⟩
      simp only [c_xmllex_scan_token, d0, ei, c1, h, go_sem, Nat.reduceBEq, Nat.reduceLeDiff, Nat.reduceAdd, Nat.reduceSub, Nat.reduceMul, Nat.reduceEqDiff, Nat.reduceLT, ↓reduceIte, eq_self, reduceCtorEq, List.getD_nil, Bool.true_or, Bool.or_true, Bool.and_false, Bool.false_and, Int.reduceLT, Int.reduceLE, List.isEmpty_cons, Int.reduceToNat, UInt8.reduceOfNat, Int.reduceBEq, Int.reduceNe, instBEqOfDecidableEq]
      try rfl
    | false =>
      rw [if_neg (by simp)]
      cases c2 : Lib.hasPrefix l [60, 33, 68, 79, 67, 84, 89, 80, 69] with
      | true =>
        rw [if_pos rfl]
        refine ⟨z, ?_⟩
        simp only [c_xmllex_scan_token, d0, ei, c1, c2, go_sem, Nat.reduceBEq, Nat.reduceLeDiff, Nat.reduceAdd, Nat.reduceSub, Nat.reduceMul, Nat.reduceEqDiff, Nat.reduceLT, ↓reduceIte, eq_self, reduceCtorEq, List.getD_nil, Bool.true_or, Bool.or_true, Bool.and_false, Bool.false_and, Int.reduceLT, Int.reduceLE, List.isEmpty_cons, Int.reduceToNat, UInt8.reduceOfNat, Int.reduceBEq, Int.reduceNe, instBEqOfDecidableEq]
        try rfl
      | false =>
        rw [if_neg (by simp)]
        cases c3 : Lib.hasPrefix l [60, 47] with
        | true =>
          rw [if_pos rfl]
          obtain ⟨z', h⟩ := ev_closing z l hl
          simp only [scanO, tokV] at h
          refine ⟨z', ?_⟩
          have e1 : (closingB l).attrs = [] := by unfold closingB; simp only; split <;> rfl
          have e2 : (closingB l).empty = false := by unfold closingB; simp only; split <;> rfl
          have e3 : (closingB l).text = [] := by unfold closingB; simp only; split <;> rfl
          simp only [c_xmllex_scan_token, d0, ei, c1, c2, c3, h, e1, e2, e3, List.isEmpty_nil, go_sem, Nat.reduceBEq, Nat.reduceLeDiff, Nat.reduceAdd, Nat.reduceSub, Nat.reduceMul, Nat.reduceEqDiff, Nat.reduceLT, ↓reduceIte, eq_self, reduceCtorEq, List.getD_nil, Bool.true_or, Bool.or_true, Bool.and_false, Bool.false_and, Int.reduceLT, Int.reduceLE, List.isEmpty_cons, Int.reduceToNat, UInt8.reduceOfNat, Int.reduceBEq, Int.reduceNe, instBEqOfDecidableEq]
        | false =>
          rw [if_neg (by simp)]
          cases c4 : Lib.hasPrefix l [60] with
          | true =>
            rw [if_pos rfl]
            obtain ⟨z', h⟩ := ev_opening z l hl
            simp only [scanO, tokV] at h
            refine ⟨z', ?_⟩
            have e1 : (openingB l).kind = 1 := by unfold openingB; simp only; split <;> rfl
            have e3 : (openingB l).text = [] := by unfold openingB; simp only; split <;> rfl
            simp only [c_xmllex_scan_token, d0, ei, c1, c2, c3, c4, h, e1, e3, go_sem, Nat.reduceBEq, Nat.reduceLeDiff, Nat.reduceAdd, Nat.reduceSub, Nat.reduceMul, Nat.reduceEqDiff, Nat.reduceLT, ↓reduceIte, eq_self, reduceCtorEq, List.getD_nil, Bool.true_or, Bool.or_true, Bool.and_false, Bool.false_and, Int.reduceLT, Int.reduceLE, List.isEmpty_cons, Int.reduceToNat, UInt8.reduceOfNat, Int.reduceBEq, Int.reduceNe, instBEqOfDecidableEq]
          | false =>
            rw [if_neg (by simp)]
            have h := ev_text z l hl
            simp only [scanO, tokV] at h
            refine ⟨z, ?_⟩
            have e1 : (textB l).kind = 3 := by unfold textB; split <;> rfl
            have e2 : (textB l).name = [] := by unfold textB; split <;> rfl
            have e3 : (textB l).attrs = [] := by unfold textB; split <;> rfl
            have e4 : (textB l).empty = false := by unfold textB; split <;> rfl
            simp only [c_xmllex_scan_token, d0, ei, c1, c2, c3, c4, h, e1, e2, e3, e4, List.isEmpty_nil, go_sem, Nat.reduceBEq, Nat.reduceLeDiff, Nat.reduceAdd, Nat.reduceSub, Nat.reduceMul, Nat.reduceEqDiff, Nat.reduceLT, ↓reduceIte, eq_self, reduceCtorEq, List.getD_nil, Bool.true_or, Bool.or_true, Bool.and_false, Bool.false_and, Int.reduceLT, Int.reduceLE, List.isEmpty_cons, Int.reduceToNat, UInt8.reduceOfNat, Int.reduceBEq, Int.reduceNe, instBEqOfDecidableEq]
/-- The token at a place, and the place behind it; with an error: where. -/
structure NextR where
  kind : Int
  name : List UInt8
  attrs : List T
  empty : Bool
  text : List UInt8
  pos : Int
  err : Int
def nextB (b : List UInt8) (at_ : Int) : NextR :=
  if at_ < 0 ∨ (b.length : Int) < at_ then ⟨0, [], [], false, [], 0, 1⟩
  else
    let s := skipB b at_.toNat
    if s.2 ≠ 0 then ⟨0, [], [], false, [], s.1, s.2⟩
    else
      let t := tokenB (b.drop s.1)
      if t.err ≠ 0 then ⟨0, [], [], false, [], s.1, t.err⟩
      else ⟨t.kind, t.name, t.attrs, t.empty, t.text, (b.length : Int) - t.rest.length, 0⟩
theorem skipF_err (l : List UInt8) : ∀ (f n : Nat), (skipF f l n).2 = 0 ∨ (skipF f l n).2 = 11
  | 0, _ => .inl rfl
  | f + 1, n => by
    rw [skipF]
    split
    · exact .inl rfl
    · split
      · exact .inr rfl
      · exact skipF_err l f _
theorem openF_len : ∀ (f : Nat) (l : List UInt8) (acc : List T), (openF f l acc).rest.length ≤ l.length
  | 0, l, acc => Nat.le_refl _
  | f + 1, l, acc => by
    rw [openF]
    have h1 := TL_len l
    have h2 := trimPrefix_len (TL l) [62]
    have h3 := trimPrefix_len (TL l) [47, 62]
    have h4 := attrB_len (TL l)
    split
    · simp only; omega
    · split
      · simp only; omega
      · split
        · split
          · have := openF_len f (attrB (TL l)).rest (acc ++ [attrT (attrB (TL l))])
            omega
          · simp only; omega
        · simp only; omega
theorem afterName_len (l : List UInt8) : (afterName l).length ≤ l.length := by
  unfold afterName
  have h3 := TL_len (l.drop (fullB l))
  rw [List.length_drop] at h3
  omega
theorem tokenB_len (l : List UInt8) : (tokenB l).rest.length ≤ l.length := by
  unfold tokenB
  repeat' split
  · exact Nat.le_refl _
  · unfold literalB
    simp only
    have h1 := cut_len (Lib.trimPrefix l [60, 33, 91, 67, 68, 65, 84, 65, 91]) [93, 93, 62]
    have h2 := trimPrefix_len l [60, 33, 91, 67, 68, 65, 84, 65, 91]
    omega
  · exact Nat.le_refl _
  · unfold closingB
    simp only
    have h1 := trimPrefix_len l [60, 47]
    have h2 := afterName_len (Lib.trimPrefix l [60, 47])
    have h3 := trimPrefix_len (afterName (Lib.trimPrefix l [60, 47])) [62]
    split <;> simp only <;> omega
  · unfold openingB
    simp only
    have h1 := trimPrefix_len l [60]
    split
    · simp only [List.length_drop]; omega
    · have h2 := openF_len ((List.drop (fullB (Lib.trimPrefix l [60])) (Lib.trimPrefix l [60])).length + 1) (List.drop (fullB (Lib.trimPrefix l [60])) (Lib.trimPrefix l [60])) []
      have h3 : (List.drop (fullB (Lib.trimPrefix l [60])) (Lib.trimPrefix l [60])).length ≤ (Lib.trimPrefix l [60]).length := by rw [List.length_drop]; omega
      simp only
      omega
  · unfold textB
    split <;> simp only [List.length_drop] <;> omega
theorem ev_Next (z : Bool) (b : List UInt8) (n : Int) (hb : b.length ≤ 1048576) :
    ev' f_xmllex_Next [.im (.by_ z b), .im (.i .i64 n)] [] = some (.ret [tokV (nextB b n).kind (nextB b n).name (nextB b n).attrs.isEmpty (nextB b n).attrs (nextB b n).empty (nextB b n).text, .im (.i .i64 (nextB b n).pos), .im (.i .i64 (nextB b n).err)] []) := by
  rw [g_xmllex_Next rfl]
  unfold nextB
  by_cases c0 : n < 0 ∨ (b.length : Int) < n
  · rw [if_pos c0]
    have hs := ev_Skip_no z b n c0
    simp only [tokV, c_xmllex_Next, hs, go_sem, Nat.reduceBEq, Nat.reduceLeDiff, Nat.reduceAdd, Nat.reduceSub, Nat.reduceMul, Nat.reduceEqDiff, Nat.reduceLT, ↓reduceIte, eq_self, reduceCtorEq, List.getD_nil, Bool.true_or, Bool.or_true, Bool.and_false, Bool.false_and, Int.reduceLT, Int.reduceLE, List.isEmpty_cons, Int.reduceToNat, UInt8.reduceOfNat, Int.reduceBEq, Int.reduceNe, instBEqOfDecidableEq]
    try rfl
  · rw [if_neg c0]
    obtain ⟨m, rfl⟩ : ∃ m : Nat, n = m := ⟨n.toNat, by omega⟩
    have hs := ev_Skip z b m hb (by omega)
    have hle := skipF_le b (b.length + 1) m (by omega)
    rw [show skipF (b.length + 1) b m = skipB b m from rfl] at hle
    simp only [Int.toNat_natCast]
    generalize skipB b m = s at *
    by_cases c1 : s.2 = 0
    · rw [if_neg (by simpa using c1)]
      have d1 : (s.2 != 0) = false := by simpa using c1
      have hl2 : (b.drop s.1).length ≤ 1048576 := by rw [List.length_drop]; omega
      obtain ⟨z', ht⟩ := ev_token z (b.drop s.1) hl2
      have htl := tokenB_len (b.drop s.1)
      rw [List.length_drop] at htl
      simp only [scanO, tokV] at ht
      have b2 := le_dec hle.2
      have b3 := ge0_dec s.1
      by_cases c2 : (tokenB (b.drop s.1)).err = 0
      · rw [if_neg (by simpa using c2)]
        have d2 : ((tokenB (b.drop s.1)).err != 0) = false := by simpa using c2
        have hw : IntKind.wrap .i64 ((b.length : Int) - ((tokenB (b.drop s.1)).rest.length : Int)) = (b.length : Int) - ((tokenB (b.drop s.1)).rest.length : Int) := by rw [wrap_i64 (by omega) (by omega)]
        simp only [tokV, c_xmllex_Next, hs, ht, d1, d2, b2, b3, hw, go_sem, Nat.reduceBEq, Nat.reduceLeDiff, Nat.reduceAdd, Nat.reduceSub, Nat.reduceMul, Nat.reduceEqDiff, Nat.reduceLT, ↓reduceIte, eq_self, reduceCtorEq, List.getD_nil, Bool.true_or, Bool.or_true, Bool.and_false, Bool.false_and, Int.reduceLT, Int.reduceLE, List.isEmpty_cons, Int.reduceToNat, UInt8.reduceOfNat, Int.reduceBEq, Int.reduceNe, instBEqOfDecidableEq]
        try rfl
      · rw [if_pos c2]
        have d2 : ((tokenB (b.drop s.1)).err != 0) = true := by simpa using c2
        simp only [tokV, c_xmllex_Next, hs, ht, d1, d2, b2, b3, go_sem, Nat.reduceBEq, Nat.reduceLeDiff, Nat.reduceAdd, Nat.reduceSub, Nat.reduceMul, Nat.reduceEqDiff, Nat.reduceLT, ↓reduceIte, eq_self, reduceCtorEq, List.getD_nil, Bool.true_or, Bool.or_true, Bool.and_false, Bool.false_and, Int.reduceLT, Int.reduceLE, List.isEmpty_cons, Int.reduceToNat, UInt8.reduceOfNat, Int.reduceBEq, Int.reduceNe, instBEqOfDecidableEq]
        try rfl
    · rw [if_pos c1]
      have d1 : (s.2 != 0) = true := by simpa using c1
      simp only [tokV, c_xmllex_Next, hs, d1, go_sem, Nat.reduceBEq, Nat.reduceLeDiff, Nat.reduceAdd, Nat.reduceSub, Nat.reduceMul, Nat.reduceEqDiff, Nat.reduceLT, ↓reduceIte, eq_self, reduceCtorEq, List.getD_nil, Bool.true_or, Bool.or_true, Bool.and_false, Bool.false_and, Int.reduceLT, Int.reduceLE, List.isEmpty_cons, Int.reduceToNat, UInt8.reduceOfNat, Int.reduceBEq, Int.reduceNe, instBEqOfDecidableEq]
      try rfl
end Go.Proofs.Av
