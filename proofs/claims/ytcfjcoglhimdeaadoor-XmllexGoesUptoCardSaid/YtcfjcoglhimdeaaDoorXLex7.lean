/- xmllex: opening tags, tokens. -/
import Derived.Test.YtcfjcoglhimdeaaDoorXLex6
set_option linter.unusedSimpArgs false
set_option linter.unusedVariables false
namespace Go.Proofs.Av
attribute [local congr] ifB_congr andThen_congr bind_congr' fend_congr guarded_congr branch_congr behind_congr again_congr
set_option maxHeartbeats 1000000
set_option linter.unusedSimpArgs false
set_option linter.unusedVariables false

theorem lpK_runK {α : Type} (b : PC) (s : S) (l : PC) (k : List Kf) (κ : Out × S → Option α) : lpK ev' lp' (runK ev' lp' b s [.ag l] some) k κ = runK ev' lp' b s (.ag l :: k) κ := by
  unfold runK lpK retK
  rw [Option.bind_assoc]
  congr 1
  funext p
  obtain ⟨o, s⟩ := p
  cases o with
  | nx =>
    simp only [unw, Option.bind_assoc]
    cases lp' l s with
    | none => rfl
    | some q => rfl
  | _ => rfl
def attrT (a : AttrR) : T := .ag [.s a.name, .s a.val]
structure OpenR where
  attrs : List T
  empty : Bool
  rest : List UInt8
  err : Int
def openF : Nat → List UInt8 → List T → OpenR
  | 0, l, acc => ⟨acc, false, l, 0⟩
  | f + 1, l, acc => if Lib.hasPrefix (TL l) [62] then ⟨acc, false, Lib.trimPrefix (TL l) [62], 0⟩
    else if Lib.hasPrefix (TL l) [47, 62] then ⟨acc, true, Lib.trimPrefix (TL l) [47, 62], 0⟩
    else if (TL l).length < l.length then (if (attrB (TL l)).err = 0 then openF f (attrB (TL l)).rest (acc ++ [attrT (attrB (TL l))]) else ⟨acc ++ [attrT (attrB (TL l))], false, (attrB (TL l)).rest, (attrB (TL l)).err⟩)
    else ⟨acc, false, TL l, 11⟩
theorem openF_ne : ∀ (f : Nat) (l : List UInt8) (acc : List T), acc ≠ [] → (openF f l acc).attrs.isEmpty = false
  | 0, l, acc, h => by simpa [openF] using h
  | f + 1, l, acc, h => by
    rw [openF]
    have h2 : acc ++ [attrT (attrB (TL l))] ≠ [] := by simp
    split
    · simpa using h
    · split
      · simpa using h
      · split
        · split
          · exact openF_ne f _ _ h2
          · simp
        · simpa using h
abbrev opK : List Kf := [.bk 0, .sq (.sq (.rg [o 40 (.ld (some 5) (.t 3)), on (.sto 5 (.t 2) (.t 40))] [2]) (.rt))]
theorem lp_opening1 (nm : List UInt8) : ∀ (f : Nat) (z : Bool) (l : List UInt8) (acc : List T), l.length < f → l.length ≤ 1048576 → acc.length + l.length ≤ 1048576 →
    ∃ z', lpK ev' lp' (nx_xmllex_scan_opening_0 ⟨[(0, .rf 0 0), (2, .rf 1002 0), (3, .rf 1003 0)], [(164194, .row t_api_Attr (.sl false t_api_Attr acc)), (0, .box [.im (.by_ z l), .im (.i .i64 0)]), (1003, .box [.im (.i .i64 1), .im (.s nm), .ow 164194, .im (.b false), .im (.s [])]), (1002, .box [.im (.i .i64 0), .im (.s []), .im (.sl true t_api_Attr []), .im (.b false), .im (.s [])])]⟩) opK (finK p_xmllex_scan_opening 1) =
      some (.ret [tokV 1 nm false (openF f l acc).attrs (openF f l acc).empty []] (scanO z' (openF f l acc).rest (openF f l acc).err)) := by
  intro f
  induction f with
  | zero => intro z l acc h; omega
  | succ f ih =>
    intro z l acc h1 h2 h3
    have h4 := TL_len l
    have eb := ev_blanks
    have et := ev_take
    simp only [scanO] at eb et
    rw [openF]
    rw [nx_xmllex_scan_opening_0, lpK_runK]
    cases p1 : Lib.hasPrefix (TL l) [62] with
    | true =>
      refine ⟨(TL l).isEmpty, ?_⟩
      simp only [b_xmllex_scan_opening_0, eb, et, p1, go_sem, Nat.reduceBEq, Nat.reduceLeDiff, Nat.reduceAdd, Nat.reduceSub, Nat.reduceMul, Nat.reduceEqDiff, Nat.reduceLT, ↓reduceIte, eq_self, reduceCtorEq, List.getD_nil, Bool.true_or, Bool.or_true, Bool.and_false, Bool.false_and, Int.reduceLT, Int.reduceLE, List.isEmpty_cons, Int.reduceToNat, UInt8.reduceOfNat, Int.reduceBEq, Int.reduceNe, instBEqOfDecidableEq]
    | false =>
      have t1 := trimPrefix_no p1
      cases p2 : Lib.hasPrefix (TL l) [47, 62] with
      | true =>
        refine ⟨(TL l).isEmpty, ?_⟩
        simp only [b_xmllex_scan_opening_0, eb, et, p1, p2, t1, go_sem, Nat.reduceBEq, Nat.reduceLeDiff, Nat.reduceAdd, Nat.reduceSub, Nat.reduceMul, Nat.reduceEqDiff, Nat.reduceLT, ↓reduceIte, eq_self, reduceCtorEq, List.getD_nil, Bool.true_or, Bool.or_true, Bool.and_false, Bool.false_and, Int.reduceLT, Int.reduceLE, List.isEmpty_cons, Int.reduceToNat, UInt8.reduceOfNat, Int.reduceBEq, Int.reduceNe, instBEqOfDecidableEq]
      | false =>
        have t2 := trimPrefix_no p2
        by_cases hg : (TL l).length < l.length
        · have g1 : decide ((TL l).length < l.length) = true := by simpa using hg
          obtain ⟨z', ea⟩ := ev_attribute (TL l).isEmpty (TL l) 0 (by omega)
          simp only [scanO] at ea
          have hal := attrB_len (TL l)
          have hap : decide ((acc.length + 1) * 32 ≤ 140737488355328) = true := by simp; omega
          have hat : T.ag [T.s (attrB (TL l)).name, T.s (attrB (TL l)).val] = attrT (attrB (TL l)) := rfl
          by_cases he : (attrB (TL l)).err = 0
          · rw [he] at ea
            obtain ⟨z2, hi⟩ := ih z' (attrB (TL l)).rest (acc ++ [attrT (attrB (TL l))]) (by omega) (by omega) (by rw [List.length_append, List.length_cons, List.length_nil]; omega)
            refine ⟨z2, ?_⟩
            simp only [b_xmllex_scan_opening_0, eb, et, ea, p1, p2, t1, t2, g1, hg, he, hap, lg_xmllex_scan_opening_0, norm, go_sem, Nat.reduceBEq, Nat.reduceLeDiff, Nat.reduceAdd, Nat.reduceSub, Nat.reduceMul, Nat.reduceEqDiff, Nat.reduceLT, ↓reduceIte, eq_self, reduceCtorEq, List.getD_nil, Bool.true_or, Bool.or_true, Bool.and_false, Bool.false_and, Int.reduceLT, Int.reduceLE, List.isEmpty_cons, Int.reduceToNat, UInt8.reduceOfNat, Int.reduceBEq, Int.reduceNe, instBEqOfDecidableEq]
            exact hi
          · have he' : ((attrB (TL l)).err == 0) = false := by simpa using he
            refine ⟨z', ?_⟩
            simp only [b_xmllex_scan_opening_0, eb, et, ea, p1, p2, t1, t2, g1, hg, he, he', hap, lg_xmllex_scan_opening_0, nx_xmllex_scan_opening_0, lpK_runK, norm, go_sem, Nat.reduceBEq, Nat.reduceLeDiff, Nat.reduceAdd, Nat.reduceSub, Nat.reduceMul, Nat.reduceEqDiff, Nat.reduceLT, ↓reduceIte, eq_self, reduceCtorEq, List.getD_nil, Bool.true_or, Bool.or_true, Bool.and_false, Bool.false_and, Int.reduceLT, Int.reduceLE, List.isEmpty_cons, Int.reduceToNat, UInt8.reduceOfNat, Int.reduceBEq, Int.reduceNe, instBEqOfDecidableEq]
            try rfl
        · have g1 : decide ((TL l).length < l.length) = false := by simpa using hg
          refine ⟨(TL l).isEmpty, ?_⟩
          simp only [b_xmllex_scan_opening_0, eb, et, p1, p2, t1, t2, g1, hg, go_sem, Nat.reduceBEq, Nat.reduceLeDiff, Nat.reduceAdd, Nat.reduceSub, Nat.reduceMul, Nat.reduceEqDiff, Nat.reduceLT, ↓reduceIte, eq_self, reduceCtorEq, List.getD_nil, Bool.true_or, Bool.or_true, Bool.and_false, Bool.false_and, Int.reduceLT, Int.reduceLE, List.isEmpty_cons, Int.reduceToNat, UInt8.reduceOfNat, Int.reduceBEq, Int.reduceNe, instBEqOfDecidableEq]
theorem lp_opening0 (nm : List UInt8) (f : Nat) (z : Bool) (l : List UInt8) (h1 : l.length < f + 1) (h2 : l.length ≤ 1048576) :
    ∃ z', lpK ev' lp' (nx_xmllex_scan_opening_0 ⟨[(0, .rf 0 0), (2, .rf 1002 0), (3, .rf 1003 0)], [(1003, .box [.im (.i .i64 1), .im (.s nm), .im (.sl true t_api_Attr []), .im (.b false), .im (.s [])]), (0, .box [.im (.by_ z l), .im (.i .i64 0)]), (1002, .box [.im (.i .i64 0), .im (.s []), .im (.sl true t_api_Attr []), .im (.b false), .im (.s [])])]⟩) opK (finK p_xmllex_scan_opening 1) =
      some (.ret [tokV 1 nm (openF (f + 1) l []).attrs.isEmpty (openF (f + 1) l []).attrs (openF (f + 1) l []).empty []] (scanO z' (openF (f + 1) l []).rest (openF (f + 1) l []).err)) := by
  · have ih := lp_opening1 nm f
    have h4 := TL_len l
    have eb := ev_blanks
    have et := ev_take
    simp only [scanO] at eb et
    rw [openF]
    rw [nx_xmllex_scan_opening_0, lpK_runK]
    cases p1 : Lib.hasPrefix (TL l) [62] with
    | true =>
      refine ⟨(TL l).isEmpty, ?_⟩
      simp only [b_xmllex_scan_opening_0, eb, et, p1, go_sem, Nat.reduceBEq, Nat.reduceLeDiff, Nat.reduceAdd, Nat.reduceSub, Nat.reduceMul, Nat.reduceEqDiff, Nat.reduceLT, ↓reduceIte, eq_self, reduceCtorEq, List.getD_nil, Bool.true_or, Bool.or_true, Bool.and_false, Bool.false_and, Int.reduceLT, Int.reduceLE, List.isEmpty_cons, Int.reduceToNat, UInt8.reduceOfNat, Int.reduceBEq, Int.reduceNe, instBEqOfDecidableEq]
    | false =>
      have t1 := trimPrefix_no p1
      cases p2 : Lib.hasPrefix (TL l) [47, 62] with
      | true =>
        refine ⟨(TL l).isEmpty, ?_⟩
        simp only [b_xmllex_scan_opening_0, eb, et, p1, p2, t1, go_sem, Nat.reduceBEq, Nat.reduceLeDiff, Nat.reduceAdd, Nat.reduceSub, Nat.reduceMul, Nat.reduceEqDiff, Nat.reduceLT, ↓reduceIte, eq_self, reduceCtorEq, List.getD_nil, Bool.true_or, Bool.or_true, Bool.and_false, Bool.false_and, Int.reduceLT, Int.reduceLE, List.isEmpty_cons, Int.reduceToNat, UInt8.reduceOfNat, Int.reduceBEq, Int.reduceNe, instBEqOfDecidableEq]
      | false =>
        have t2 := trimPrefix_no p2
        by_cases hg : (TL l).length < l.length
        · have g1 : decide ((TL l).length < l.length) = true := by simpa using hg
          obtain ⟨z', ea⟩ := ev_attribute (TL l).isEmpty (TL l) 0 (by omega)
          simp only [scanO] at ea
          have hal := attrB_len (TL l)
          have hap : decide ((0 + 1) * 32 ≤ 140737488355328) = true := rfl
          have hat : T.ag [T.s (attrB (TL l)).name, T.s (attrB (TL l)).val] = attrT (attrB (TL l)) := rfl
          by_cases he : (attrB (TL l)).err = 0
          · rw [he] at ea
            obtain ⟨z2, hi⟩ := ih z' (attrB (TL l)).rest ([] ++ [attrT (attrB (TL l))]) (by omega) (by omega) (by rw [List.length_append, List.length_cons, List.length_nil]; omega)
            refine ⟨z2, ?_⟩
            simp only [b_xmllex_scan_opening_0, eb, et, ea, p1, p2, t1, t2, g1, hg, he, hap, lg_xmllex_scan_opening_0, norm, go_sem, Nat.reduceBEq, Nat.reduceLeDiff, Nat.reduceAdd, Nat.reduceSub, Nat.reduceMul, Nat.reduceEqDiff, Nat.reduceLT, ↓reduceIte, eq_self, reduceCtorEq, List.getD_nil, Bool.true_or, Bool.or_true, Bool.and_false, Bool.false_and, Int.reduceLT, Int.reduceLE, List.isEmpty_cons, Int.reduceToNat, UInt8.reduceOfNat, Int.reduceBEq, Int.reduceNe, instBEqOfDecidableEq]
            have hi' := hi
            rw [List.nil_append] at hi'
            rw [openF_ne _ _ _ (by simp)]
            exact hi'
          · have he' : ((attrB (TL l)).err == 0) = false := by simpa using he
            refine ⟨z', ?_⟩
            simp only [b_xmllex_scan_opening_0, eb, et, ea, p1, p2, t1, t2, g1, hg, he, he', hap, lg_xmllex_scan_opening_0, nx_xmllex_scan_opening_0, lpK_runK, norm, go_sem, Nat.reduceBEq, Nat.reduceLeDiff, Nat.reduceAdd, Nat.reduceSub, Nat.reduceMul, Nat.reduceEqDiff, Nat.reduceLT, ↓reduceIte, eq_self, reduceCtorEq, List.getD_nil, Bool.true_or, Bool.or_true, Bool.and_false, Bool.false_and, Int.reduceLT, Int.reduceLE, List.isEmpty_cons, Int.reduceToNat, UInt8.reduceOfNat, Int.reduceBEq, Int.reduceNe, instBEqOfDecidableEq]
            try rfl
        · have g1 : decide ((TL l).length < l.length) = false := by simpa using hg
          refine ⟨(TL l).isEmpty, ?_⟩
          simp only [b_xmllex_scan_opening_0, eb, et, p1, p2, t1, t2, g1, hg, go_sem, Nat.reduceBEq, Nat.reduceLeDiff, Nat.reduceAdd, Nat.reduceSub, Nat.reduceMul, Nat.reduceEqDiff, Nat.reduceLT, ↓reduceIte, eq_self, reduceCtorEq, List.getD_nil, Bool.true_or, Bool.or_true, Bool.and_false, Bool.false_and, Int.reduceLT, Int.reduceLE, List.isEmpty_cons, Int.reduceToNat, UInt8.reduceOfNat, Int.reduceBEq, Int.reduceNe, instBEqOfDecidableEq]
def openingB (l0 : List UInt8) : TokR :=
  let l := Lib.trimPrefix l0 [60]
  if l.take (fullB l) = [] then ⟨1, l.take (fullB l), [], false, [], l.drop (fullB l), 11⟩
  else
    let r := openF ((l.drop (fullB l)).length + 1) (l.drop (fullB l)) []
    ⟨1, l.take (fullB l), r.attrs, r.empty, [], r.rest, r.err⟩
theorem ev_opening (z : Bool) (l : List UInt8) (hl : l.length ≤ 1048576) :
    ∃ z', ev' f_xmllex_scan_opening [.rf 0 0] (scanO z l 0) = some (.ret [tokV 1 (openingB l).name (openingB l).attrs.isEmpty (openingB l).attrs (openingB l).empty []] (scanO z' (openingB l).rest (openingB l).err)) := by
  rw [g_xmllex_scan_opening rfl]
  have hl1 := Nat.le_trans (trimPrefix_len l [60]) hl
  have en := fun z e => ev_name z _ e hl1
  have et := ev_take
  unfold openingB
  simp only
  generalize hk : Lib.trimPrefix l [60] = k at *
  have hl2 : (k.drop (fullB k)).length ≤ 1048576 := by rw [List.length_drop]; omega
  simp only [scanO] at en et
  by_cases hn : k.take (fullB k) = []
  · rw [if_pos hn]
    have hn' : (k.take (fullB k) == []) = true := by simpa using hn
    refine ⟨z, ?_⟩
    simp only [scanO, c_xmllex_scan_opening, en, et, hk, hn', lg_xmllex_scan_opening_0, nx_xmllex_scan_opening_0, lpK_runK, b_xmllex_scan_opening_0, norm, go_sem, Nat.reduceBEq, Nat.reduceLeDiff, Nat.reduceAdd, Nat.reduceSub, Nat.reduceMul, Nat.reduceEqDiff, Nat.reduceLT, ↓reduceIte, eq_self, reduceCtorEq, List.getD_nil, Bool.true_or, Bool.or_true, Bool.and_false, Bool.false_and, Int.reduceLT, Int.reduceLE, List.isEmpty_cons, Int.reduceToNat, UInt8.reduceOfNat, Int.reduceBEq, Int.reduceNe, instBEqOfDecidableEq]
    try rfl
  · rw [if_neg hn]
    have hn' : (k.take (fullB k) == []) = false := by simpa using hn
    obtain ⟨z', h⟩ := lp_opening0 (k.take (fullB k)) (k.drop (fullB k)).length z (k.drop (fullB k)) (by omega) hl2
    refine ⟨z', ?_⟩
    rw [← h]
    simp only [scanO, c_xmllex_scan_opening, en, et, hk, hn', lg_xmllex_scan_opening_0, norm, go_sem, Nat.reduceBEq, Nat.reduceLeDiff, Nat.reduceAdd, Nat.reduceSub, Nat.reduceMul, Nat.reduceEqDiff, Nat.reduceLT, ↓reduceIte, eq_self, reduceCtorEq, List.getD_nil, Bool.true_or, Bool.or_true, Bool.and_false, Bool.false_and, Int.reduceLT, Int.reduceLE, List.isEmpty_cons, Int.reduceToNat, UInt8.reduceOfNat, Int.reduceBEq, Int.reduceNe, instBEqOfDecidableEq]
end Go.Proofs.Av
