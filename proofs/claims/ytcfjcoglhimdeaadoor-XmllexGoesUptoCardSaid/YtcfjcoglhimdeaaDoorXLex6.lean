/- xmllex: attributes, closing tags, literal text, text. -/
import Derived.Test.YtcfjcoglhimdeaaDoorXLex5
set_option linter.unusedSimpArgs false
set_option linter.unusedVariables false
namespace Go.Proofs.Av
attribute [local congr] ifB_congr andThen_congr bind_congr' fend_congr guarded_congr branch_congr behind_congr again_congr
set_option maxHeartbeats 1000000
set_option linter.unusedSimpArgs false
set_option linter.unusedVariables false

theorem TL_len (l : List UInt8) : (TL l).length ≤ l.length := by
  unfold TL Lib.trimLeftS
  exact (List.dropWhile_suffix _).length_le
theorem valueB_len {l : List UInt8} {c : List UInt8 × List UInt8 × Bool} (h : valueB l = some c) : c.1.length ≤ l.length ∧ c.2.1.length ≤ l.length := by
  unfold valueB at h
  have key : ∀ x : UInt8, (cutV1 l x).1.length ≤ l.length ∧ (cutV1 l x).2.1.length ≤ l.length := fun x => by
    unfold cutV1
    have h1 := cut_len (Lib.trimPrefix l [x]) [x]
    have h2 := trimPrefix_len l [x]
    omega
  split at h
  · simp only [Option.some.injEq] at h
    subst h
    exact key 39
  · split at h
    · simp only [Option.some.injEq] at h
      subst h
      exact key 34
    · cases h
def afterName (l : List UInt8) : List UInt8 := TL (l.drop (fullB l))
def afterEq (l : List UInt8) : List UInt8 := TL (Lib.trimPrefix (afterName l) [61])
structure AttrR where
  name : List UInt8
  val : List UInt8
  rest : List UInt8
  err : Int
def attrB (l : List UInt8) : AttrR := match valueB (afterEq l) with
  | none => ⟨l.take (fullB l), [], afterEq l, 11⟩
  | some c => if l.take (fullB l) = [] ∨ Lib.hasPrefix (afterName l) [61] = false ∨ (c.2.2 && decide (Lib.indexByte c.1 60 < 0)) = false then ⟨l.take (fullB l), [], c.2.1, 11⟩
    else ⟨l.take (fullB l), (rsvB c.1 true).1, c.2.1, (rsvB c.1 true).2.2⟩
theorem afterEq_len (l : List UInt8) : (afterEq l).length ≤ l.length := by
  unfold afterEq afterName
  have h1 := TL_len (Lib.trimPrefix (TL (l.drop (fullB l))) [61])
  have h2 := trimPrefix_len (TL (l.drop (fullB l))) [61]
  have h3 := TL_len (l.drop (fullB l))
  rw [List.length_drop] at h3
  omega
theorem attrB_len (l : List UInt8) : (attrB l).rest.length ≤ l.length := by
  unfold attrB
  have h1 := afterEq_len l
  split
  · exact h1
  · rename_i c hc
    have := valueB_len hc
    split
    · simp only; omega
    · simp only; omega
theorem ev_attribute (z : Bool) (l : List UInt8) (e : Int) (hl : l.length ≤ 1048576) :
    ∃ z', ev' f_xmllex_scan_attribute [.rf 0 0] (scanO z l e) = some (.ret [.ag [.im (.s (attrB l).name), .im (.s (attrB l).val)]] (scanO z' (attrB l).rest (attrB l).err)) := by
  rw [g_xmllex_scan_attribute rfl]
  have h1 := TL_len (l.drop (fullB l))
  have h0 := afterEq_len l
  rw [List.length_drop] at h1
  have en := fun z e => ev_name z l e hl
  have eb := ev_blanks
  have et := ev_take
  have a1 : TL (l.drop (fullB l)) = afterName l := rfl
  have a2 : TL (Lib.trimPrefix (afterName l) [61]) = afterEq l := rfl
  simp only [scanO] at en eb et ⊢
  unfold attrB
  cases hv : valueB (afterEq l) with
  | none =>
    have ev := fun z e => ev_value_none z (afterEq l) e hv
    simp only [scanO] at ev
    refine ⟨(afterEq l).isEmpty, ?_⟩
    cases hn : l.take (fullB l) == [] with
    | true => simp only [c_xmllex_scan_attribute, en, eb, et, ev, a1, a2, hn, go_sem, Nat.reduceBEq, Nat.reduceLeDiff, Nat.reduceAdd, Nat.reduceSub, Nat.reduceMul, Nat.reduceEqDiff, Nat.reduceLT, ↓reduceIte, eq_self, reduceCtorEq, List.getD_nil, Bool.true_or, Bool.or_true, Bool.and_false, Bool.false_and, Int.reduceLT, Int.reduceLE, List.isEmpty_cons, Int.reduceToNat, UInt8.reduceOfNat, Int.reduceBEq, Int.reduceNe, instBEqOfDecidableEq]
    | false =>
      cases hp : Lib.hasPrefix (afterName l) [61] <;> simp only [c_xmllex_scan_attribute, en, eb, et, ev, a1, a2, hn, hp, go_sem, Nat.reduceBEq, Nat.reduceLeDiff, Nat.reduceAdd, Nat.reduceSub, Nat.reduceMul, Nat.reduceEqDiff, Nat.reduceLT, ↓reduceIte, eq_self, reduceCtorEq, List.getD_nil, Bool.true_or, Bool.or_true, Bool.and_false, Bool.false_and, Int.reduceLT, Int.reduceLE, List.isEmpty_cons, Int.reduceToNat, UInt8.reduceOfNat, Int.reduceBEq, Int.reduceNe, instBEqOfDecidableEq]
  | some c =>
    have ev := fun z e => ev_value_some z (afterEq l) e (by omega) hv
    simp only [scanO] at ev
    have hcl := valueB_len hv
    have er := fun z => ev_resolve z c.1 true (by omega)
    refine ⟨!c.2.2, ?_⟩
    simp only
    by_cases hb : l.take (fullB l) = [] ∨ Lib.hasPrefix (afterName l) [61] = false ∨ (c.2.2 && decide (Lib.indexByte c.1 60 < 0)) = false
    · rw [if_pos hb]
      by_cases hn : l.take (fullB l) = []
      · have hn' : (l.take (fullB l) == []) = true := by simpa using hn
        simp only [c_xmllex_scan_attribute, en, eb, et, ev, a1, a2, hn', go_sem, Nat.reduceBEq, Nat.reduceLeDiff, Nat.reduceAdd, Nat.reduceSub, Nat.reduceMul, Nat.reduceEqDiff, Nat.reduceLT, ↓reduceIte, eq_self, reduceCtorEq, List.getD_nil, Bool.true_or, Bool.or_true, Bool.and_false, Bool.false_and, Int.reduceLT, Int.reduceLE, List.isEmpty_cons, Int.reduceToNat, UInt8.reduceOfNat, Int.reduceBEq, Int.reduceNe, instBEqOfDecidableEq]
      · have hn' : (l.take (fullB l) == []) = false := by simpa using hn
        cases hp : Lib.hasPrefix (afterName l) [61] with
        | false => simp only [c_xmllex_scan_attribute, en, eb, et, ev, a1, a2, hn', hp, go_sem, Nat.reduceBEq, Nat.reduceLeDiff, Nat.reduceAdd, Nat.reduceSub, Nat.reduceMul, Nat.reduceEqDiff, Nat.reduceLT, ↓reduceIte, eq_self, reduceCtorEq, List.getD_nil, Bool.true_or, Bool.or_true, Bool.and_false, Bool.false_and, Int.reduceLT, Int.reduceLE, List.isEmpty_cons, Int.reduceToNat, UInt8.reduceOfNat, Int.reduceBEq, Int.reduceNe, instBEqOfDecidableEq]
        | true =>
          have ho : (c.2.2 && decide (Lib.indexByte c.1 60 < 0)) = false := by
            rcases hb with h | h | h
            · exact absurd h hn
            · rw [hp] at h; cases h
            · exact h
          simp only [c_xmllex_scan_attribute, en, eb, et, ev, a1, a2, hn', hp, ho, go_sem, Nat.reduceBEq, Nat.reduceLeDiff, Nat.reduceAdd, Nat.reduceSub, Nat.reduceMul, Nat.reduceEqDiff, Nat.reduceLT, ↓reduceIte, eq_self, reduceCtorEq, List.getD_nil, Bool.true_or, Bool.or_true, Bool.and_false, Bool.false_and, Int.reduceLT, Int.reduceLE, List.isEmpty_cons, Int.reduceToNat, UInt8.reduceOfNat, Int.reduceBEq, Int.reduceNe, instBEqOfDecidableEq]
    · rw [if_neg hb]
      simp only [not_or, Bool.not_eq_false] at hb
      obtain ⟨b1, b2, b3⟩ := hb
      have hn' : (l.take (fullB l) == []) = false := by simpa using b1
      simp only [c_xmllex_scan_attribute, en, eb, et, ev, er, a1, a2, hn', b2, b3, go_sem, Nat.reduceBEq, Nat.reduceLeDiff, Nat.reduceAdd, Nat.reduceSub, Nat.reduceMul, Nat.reduceEqDiff, Nat.reduceLT, ↓reduceIte, eq_self, reduceCtorEq, List.getD_nil, Bool.true_or, Bool.or_true, Bool.and_false, Bool.false_and, Int.reduceLT, Int.reduceLE, List.isEmpty_cons, Int.reduceToNat, UInt8.reduceOfNat, Int.reduceBEq, Int.reduceNe, instBEqOfDecidableEq]
abbrev tokV (k : Int) (n : List UInt8) (z : Bool) (as : List T) (e : Bool) (t : List UInt8) : V := .ag [.im (.i .i64 k), .im (.s n), .im (.sl z t_api_Attr as), .im (.b e), .im (.s t)]
structure TokR where
  kind : Int
  name : List UInt8
  attrs : List T
  empty : Bool
  text : List UInt8
  rest : List UInt8
  err : Int
def closingB (l0 : List UInt8) : TokR :=
  let l := Lib.trimPrefix l0 [60, 47]
  if l.take (fullB l) = [] then ⟨2, l.take (fullB l), [], false, [], afterName l, 11⟩
  else ⟨2, l.take (fullB l), [], false, [], Lib.trimPrefix (afterName l) [62], if Lib.hasPrefix (afterName l) [62] then 0 else 11⟩
theorem ev_closing (z : Bool) (l : List UInt8) (hl : l.length ≤ 1048576) :
    ∃ z', ev' f_xmllex_scan_closing [.rf 0 0] (scanO z l 0) = some (.ret [tokV (closingB l).kind (closingB l).name true [] false []] (scanO z' (closingB l).rest (closingB l).err)) := by
  rw [g_xmllex_scan_closing rfl]
  have hl1 := Nat.le_trans (trimPrefix_len l [60, 47]) hl
  have en := fun z e => ev_name z _ e hl1
  have eb := ev_blanks
  have et := ev_take
  simp only [scanO, tokV] at en eb et ⊢
  have a1 : TL ((Lib.trimPrefix l [60, 47]).drop (fullB (Lib.trimPrefix l [60, 47]))) = afterName (Lib.trimPrefix l [60, 47]) := rfl
  unfold closingB
  simp only
  by_cases hn : (Lib.trimPrefix l [60, 47]).take (fullB (Lib.trimPrefix l [60, 47])) = []
  · rw [if_pos hn]
    have hn' : ((Lib.trimPrefix l [60, 47]).take (fullB (Lib.trimPrefix l [60, 47])) == []) = true := by simpa using hn
    refine ⟨(afterName (Lib.trimPrefix l [60, 47])).isEmpty, ?_⟩
    simp only [c_xmllex_scan_closing, en, eb, et, a1, hn', go_sem, Nat.reduceBEq, Nat.reduceLeDiff, Nat.reduceAdd, Nat.reduceSub, Nat.reduceMul, Nat.reduceEqDiff, Nat.reduceLT, ↓reduceIte, eq_self, reduceCtorEq, List.getD_nil, Bool.true_or, Bool.or_true, Bool.and_false, Bool.false_and, Int.reduceLT, Int.reduceLE, List.isEmpty_cons, Int.reduceToNat, UInt8.reduceOfNat, Int.reduceBEq, Int.reduceNe, instBEqOfDecidableEq]
    try rfl
  · rw [if_neg hn]
    have hn' : ((Lib.trimPrefix l [60, 47]).take (fullB (Lib.trimPrefix l [60, 47])) == []) = false := by simpa using hn
    refine ⟨(afterName (Lib.trimPrefix l [60, 47])).isEmpty, ?_⟩
    cases hp : Lib.hasPrefix (afterName (Lib.trimPrefix l [60, 47])) [62] with
    | true =>
      simp only [c_xmllex_scan_closing, en, eb, et, a1, hn', hp, go_sem, Nat.reduceBEq, Nat.reduceLeDiff, Nat.reduceAdd, Nat.reduceSub, Nat.reduceMul, Nat.reduceEqDiff, Nat.reduceLT, ↓reduceIte, eq_self, reduceCtorEq, List.getD_nil, Bool.true_or, Bool.or_true, Bool.and_false, Bool.false_and, Int.reduceLT, Int.reduceLE, List.isEmpty_cons, Int.reduceToNat, UInt8.reduceOfNat, Int.reduceBEq, Int.reduceNe, instBEqOfDecidableEq]
      try rfl
    | false =>
      simp only [c_xmllex_scan_closing, en, eb, et, a1, hn', hp, go_sem, Nat.reduceBEq, Nat.reduceLeDiff, Nat.reduceAdd, Nat.reduceSub, Nat.reduceMul, Nat.reduceEqDiff, Nat.reduceLT, ↓reduceIte, eq_self, reduceCtorEq, List.getD_nil, Bool.true_or, Bool.or_true, Bool.and_false, Bool.false_and, Int.reduceLT, Int.reduceLE, List.isEmpty_cons, Int.reduceToNat, UInt8.reduceOfNat, Int.reduceBEq, Int.reduceNe, instBEqOfDecidableEq]
      try rfl
def literalB (l0 : List UInt8) : TokR :=
  let c := Lib.cut (Lib.trimPrefix l0 [60, 33, 91, 67, 68, 65, 84, 65, 91]) [93, 93, 62]
  ⟨3, [], [], false, linesB c.1 false, c.2.1, if c.2.2 then 0 else 11⟩
theorem ev_literal (z : Bool) (l : List UInt8) (hl : l.length ≤ 1048576) :
    ∃ z', ev' f_xmllex_scan_literal [.rf 0 0] (scanO z l 0) = some (.ret [tokV 3 [] true [] false (literalB l).text] (scanO z' (literalB l).rest (literalB l).err)) := by
  rw [g_xmllex_scan_literal rfl]
  have hl1 := Nat.le_trans (trimPrefix_len l [60, 33, 91, 67, 68, 65, 84, 65, 91]) hl
  have hc := cut_len (Lib.trimPrefix l [60, 33, 91, 67, 68, 65, 84, 65, 91]) [93, 93, 62]
  have ec := fun z => ev_Cut z false _ [93, 93, 62] hl1
  have eL := fun z => ev_lines z (Lib.cut (Lib.trimPrefix l [60, 33, 91, 67, 68, 65, 84, 65, 91]) [93, 93, 62]).1 false (by omega)
  have et := ev_take
  simp only [scanO, tokV] at et ⊢
  unfold literalB
  simp only
  refine ⟨!(Lib.cut (Lib.trimPrefix l [60, 33, 91, 67, 68, 65, 84, 65, 91]) [93, 93, 62]).2.2, ?_⟩
  cases k : (Lib.cut (Lib.trimPrefix l [60, 33, 91, 67, 68, 65, 84, 65, 91]) [93, 93, 62]).2.2 <;> simp only [c_xmllex_scan_literal, et, ec, eL, k, go_sem, Nat.reduceBEq, Nat.reduceLeDiff, Nat.reduceAdd, Nat.reduceSub, Nat.reduceMul, Nat.reduceEqDiff, Nat.reduceLT, ↓reduceIte, eq_self, reduceCtorEq, List.getD_nil, Bool.true_or, Bool.or_true, Bool.and_false, Bool.false_and, Int.reduceLT, Int.reduceLE, List.isEmpty_cons, Int.reduceToNat, UInt8.reduceOfNat, Int.reduceBEq, Int.reduceNe, instBEqOfDecidableEq]
def lessAt (l : List UInt8) : Nat := if Lib.indexByte l 60 < 0 then l.length else (Lib.indexByte l 60).toNat
def textB (l : List UInt8) : TokR :=
  if Lib.contains (l.take (lessAt l)) [93, 93, 62] then ⟨3, [], [], false, [], l.drop (lessAt l), 11⟩
  else ⟨3, [], [], false, (rsvB (l.take (lessAt l)) false).1, l.drop (lessAt l), (rsvB (l.take (lessAt l)) false).2.2⟩
theorem lessAt_le (l : List UInt8) : lessAt l ≤ l.length := by
  unfold lessAt
  split
  · exact Nat.le_refl _
  · rename_i h
    have := indexByte_lt l 60
    split at this
    · rename_i h2; subst h2; simp [Lib.indexByte] at h
    · omega
theorem ev_text (z : Bool) (l : List UInt8) (hl : l.length ≤ 1048576) :
    ev' f_xmllex_scan_text [.rf 0 0] (scanO z l 0) = some (.ret [tokV 3 [] true [] false (textB l).text] (scanO z (textB l).rest (textB l).err)) := by
  rw [g_xmllex_scan_text rfl]
  have hle := lessAt_le l
  have hl1 : (l.take (lessAt l)).length ≤ 1048576 := by rw [List.length_take]; omega
  have ek := fun z => ev_Contains z false (l.take (lessAt l)) [93, 93, 62] hl1
  have er := fun z => ev_resolve z (l.take (lessAt l)) false hl1
  have b1 := le_dec hle
  have b2 := ge0_dec (lessAt l)
  simp only [scanO, tokV]
  unfold textB
  by_cases hi : Lib.indexByte l 60 < 0
  · have e1 : lessAt l = l.length := by unfold lessAt; rw [if_pos hi]
    have d1 : decide (Lib.indexByte l 60 < 0) = true := by simpa using hi
    rw [e1] at ek er b1 b2 ⊢
    cases k : Lib.contains (l.take l.length) [93, 93, 62] <;> simp only [c_xmllex_scan_text, ev_IndexByte, d1, b1, b2, ek, er, k, go_sem, Nat.reduceBEq, Nat.reduceLeDiff, Nat.reduceAdd, Nat.reduceSub, Nat.reduceMul, Nat.reduceEqDiff, Nat.reduceLT, ↓reduceIte, eq_self, reduceCtorEq, List.getD_nil, Bool.true_or, Bool.or_true, Bool.and_false, Bool.false_and, Int.reduceLT, Int.reduceLE, List.isEmpty_cons, Int.reduceToNat, UInt8.reduceOfNat, Int.reduceBEq, Int.reduceNe, instBEqOfDecidableEq]
  · have d1 : decide (Lib.indexByte l 60 < 0) = false := by simpa using hi
    have e1 : Lib.indexByte l 60 = (lessAt l : Int) := by unfold lessAt; rw [if_neg hi]; omega
    rw [e1] at d1
    cases k : Lib.contains (l.take (lessAt l)) [93, 93, 62] <;> simp only [c_xmllex_scan_text, ev_IndexByte, e1, d1, b1, b2, ek, er, k, go_sem, Nat.reduceBEq, Nat.reduceLeDiff, Nat.reduceAdd, Nat.reduceSub, Nat.reduceMul, Nat.reduceEqDiff, Nat.reduceLT, ↓reduceIte, eq_self, reduceCtorEq, List.getD_nil, Bool.true_or, Bool.or_true, Bool.and_false, Bool.false_and, Int.reduceLT, Int.reduceLE, List.isEmpty_cons, Int.reduceToNat, UInt8.reduceOfNat, Int.reduceBEq, Int.reduceNe, instBEqOfDecidableEq]
end Go.Proofs.Av
