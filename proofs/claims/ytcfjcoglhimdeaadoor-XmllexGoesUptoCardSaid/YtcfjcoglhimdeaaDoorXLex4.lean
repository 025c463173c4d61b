/- xmllex: values, lines, numerals. -/
import Derived.Test.YtcfjcoglhimdeaaDoorXLex2
set_option linter.unusedSimpArgs false
set_option linter.unusedVariables false
namespace Go.Proofs.Av
attribute [local congr] ifB_congr andThen_congr bind_congr' fend_congr guarded_congr branch_congr behind_congr again_congr
set_option maxHeartbeats 1000000
set_option linter.unusedSimpArgs false
set_option linter.unusedVariables false

theorem trimPrefix_no {l t : List UInt8} (h : Lib.hasPrefix l t = false) : Lib.trimPrefix l t = l := by unfold Lib.trimPrefix; rw [h]; rfl
theorem trimPrefix_len (l t : List UInt8) : (Lib.trimPrefix l t).length ≤ l.length := by
  unfold Lib.trimPrefix
  split
  · rw [List.length_drop]; omega
  · exact Nat.le_refl _
def cutV1 (l : List UInt8) (c : UInt8) : List UInt8 × List UInt8 × Bool := Lib.cut (Lib.trimPrefix l [c]) [c]
theorem lp_value2 (z : Bool) (l : List UInt8) (e : Int) : ∃ s, nx_xmllex_scan_value_0 ⟨[(0, .rf 0 0), (9, .ag [.im (.s [39]), .im (.s [34])]), (10, .im (.i .i64 2))], scanO z l e⟩ = some (.ex 0, s) ∧ s.obs = scanO z l e := by
  rw [nx_xmllex_scan_value_0]
  have h0 : decide ((2 : Int) < 2) = false := rfl
  simp only [scanO, b_xmllex_scan_value_0, h0, go_sem, Nat.reduceBEq, Nat.reduceLeDiff, Nat.reduceAdd, Nat.reduceSub, Nat.reduceMul, Nat.reduceEqDiff, Nat.reduceLT, ↓reduceIte, eq_self, reduceCtorEq, List.getD_nil, Bool.true_or, Bool.or_true, Bool.and_false, Bool.false_and, Int.reduceLT, Int.reduceLE, List.isEmpty_cons, Int.reduceToNat, UInt8.reduceOfNat, Int.reduceBEq, Int.reduceNe, instBEqOfDecidableEq]
  exact ⟨_, rfl, rfl⟩
theorem lp_value1 (z : Bool) (l : List UInt8) (e : Int) (hl : l.length ≤ 1048576) (h : Lib.hasPrefix l [34] = true) : nx_xmllex_scan_value_0 ⟨[(0, .rf 0 0), (9, .ag [.im (.s [39]), .im (.s [34])]), (10, .im (.i .i64 1))], scanO z l e⟩ =
    some (.rt, ⟨[(2, .im (.by_ z (cutV1 l 34).1)), (3, .im (.b ((cutV1 l 34).2.2 && decide (Lib.indexByte (cutV1 l 34).1 60 < 0))))], scanO (!(cutV1 l 34).2.2) (cutV1 l 34).2.1 e⟩) := by
  rw [nx_xmllex_scan_value_0]
  have hl2 := Nat.le_trans (trimPrefix_len l [34]) hl
  have h0 : decide ((1 : Int) < 2) = true := rfl
  have h1 : decide ((0 : Int) ≤ 1) = true := rfl
  have h3 : decide ((1 : Int) < ((2 : Nat) : Int)) = true := rfl
  unfold cutV1
  simp only [scanO, b_xmllex_scan_value_0, h0, h1, h3, ev_take, h, ev_Cut _ _ _ _ hl2, ev_IndexByte, go_sem, Nat.reduceBEq, Nat.reduceLeDiff, Nat.reduceAdd, Nat.reduceSub, Nat.reduceMul, Nat.reduceEqDiff, Nat.reduceLT, ↓reduceIte, eq_self, reduceCtorEq, List.getD_nil, Bool.true_or, Bool.or_true, Bool.and_false, Bool.false_and, Int.reduceLT, Int.reduceLE, List.isEmpty_cons, Int.reduceToNat, UInt8.reduceOfNat, Int.reduceBEq, Int.reduceNe, instBEqOfDecidableEq]
  cases hc : (Lib.cut (Lib.trimPrefix l [34]) [34]).2.2 <;> simp only [hc, ev_IndexByte, go_sem, Nat.reduceBEq, Nat.reduceLeDiff, Nat.reduceAdd, Nat.reduceSub, Nat.reduceMul, Nat.reduceEqDiff, Nat.reduceLT, ↓reduceIte, eq_self, reduceCtorEq, List.getD_nil, Bool.true_or, Bool.or_true, Bool.and_false, Bool.false_and, Int.reduceLT, Int.reduceLE, List.isEmpty_cons, Int.reduceToNat, UInt8.reduceOfNat, Int.reduceBEq, Int.reduceNe, instBEqOfDecidableEq]
theorem lp_value0 (z : Bool) (l : List UInt8) (e : Int) (hl : l.length ≤ 1048576) (h : Lib.hasPrefix l [39] = true) : nx_xmllex_scan_value_0 ⟨[(0, .rf 0 0), (9, .ag [.im (.s [39]), .im (.s [34])]), (10, .im (.i .i64 0))], scanO z l e⟩ =
    some (.rt, ⟨[(2, .im (.by_ z (cutV1 l 39).1)), (3, .im (.b ((cutV1 l 39).2.2 && decide (Lib.indexByte (cutV1 l 39).1 60 < 0))))], scanO (!(cutV1 l 39).2.2) (cutV1 l 39).2.1 e⟩) := by
  rw [nx_xmllex_scan_value_0]
  have hl2 := Nat.le_trans (trimPrefix_len l [39]) hl
  have h0 : decide ((0 : Int) < 2) = true := rfl
  have h1 : decide ((0 : Int) ≤ 0) = true := rfl
  have h3 : decide ((0 : Int) < ((2 : Nat) : Int)) = true := rfl
  unfold cutV1
  simp only [scanO, b_xmllex_scan_value_0, h0, h1, h3, ev_take, h, ev_Cut _ _ _ _ hl2, ev_IndexByte, go_sem, Nat.reduceBEq, Nat.reduceLeDiff, Nat.reduceAdd, Nat.reduceSub, Nat.reduceMul, Nat.reduceEqDiff, Nat.reduceLT, ↓reduceIte, eq_self, reduceCtorEq, List.getD_nil, Bool.true_or, Bool.or_true, Bool.and_false, Bool.false_and, Int.reduceLT, Int.reduceLE, List.isEmpty_cons, Int.reduceToNat, UInt8.reduceOfNat, Int.reduceBEq, Int.reduceNe, instBEqOfDecidableEq]
  cases hc : (Lib.cut (Lib.trimPrefix l [39]) [39]).2.2 <;> simp only [hc, ev_IndexByte, go_sem, Nat.reduceBEq, Nat.reduceLeDiff, Nat.reduceAdd, Nat.reduceSub, Nat.reduceMul, Nat.reduceEqDiff, Nat.reduceLT, ↓reduceIte, eq_self, reduceCtorEq, List.getD_nil, Bool.true_or, Bool.or_true, Bool.and_false, Bool.false_and, Int.reduceLT, Int.reduceLE, List.isEmpty_cons, Int.reduceToNat, UInt8.reduceOfNat, Int.reduceBEq, Int.reduceNe, instBEqOfDecidableEq]
theorem lp_value1n (z : Bool) (l : List UInt8) (e : Int) (h : Lib.hasPrefix l [34] = false) : ∃ s, nx_xmllex_scan_value_0 ⟨[(0, .rf 0 0), (9, .ag [.im (.s [39]), .im (.s [34])]), (10, .im (.i .i64 1))], scanO z l e⟩ = some (.ex 0, s) ∧ s.obs = scanO z l e := by
  rw [nx_xmllex_scan_value_0]
  have h0 : decide ((1 : Int) < 2) = true := rfl
  have h1 : decide ((0 : Int) ≤ 1) = true := rfl
  have h3 : decide ((1 : Int) < ((2 : Nat) : Int)) = true := rfl
  have hw : IntKind.wrap .i64 ((1 : Int) + 1) = 2 := rfl
  obtain ⟨s, i1, i2⟩ := lp_value2 z l e
  refine ⟨s, ?_, i2⟩
  rw [← i1]
  simp only [scanO, b_xmllex_scan_value_0, h0, h1, h3, hw, ev_take, h, trimPrefix_no h, lg_xmllex_scan_value_0, norm, go_sem, Nat.reduceBEq, Nat.reduceLeDiff, Nat.reduceAdd, Nat.reduceSub, Nat.reduceMul, Nat.reduceEqDiff, Nat.reduceLT, ↓reduceIte, eq_self, reduceCtorEq, List.getD_nil, Bool.true_or, Bool.or_true, Bool.and_false, Bool.false_and, Int.reduceLT, Int.reduceLE, List.isEmpty_cons, Int.reduceToNat, UInt8.reduceOfNat, Int.reduceBEq, Int.reduceNe, instBEqOfDecidableEq]
theorem lp_value0n (z : Bool) (l : List UInt8) (e : Int) (h : Lib.hasPrefix l [39] = false) : nx_xmllex_scan_value_0 ⟨[(0, .rf 0 0), (9, .ag [.im (.s [39]), .im (.s [34])]), (10, .im (.i .i64 0))], scanO z l e⟩ = nx_xmllex_scan_value_0 ⟨[(0, .rf 0 0), (9, .ag [.im (.s [39]), .im (.s [34])]), (10, .im (.i .i64 1))], scanO z l e⟩ := by
  have e1 : nx_xmllex_scan_value_0 ⟨[(0, .rf 0 0), (9, .ag [.im (.s [39]), .im (.s [34])]), (10, .im (.i .i64 0))], scanO z l e⟩ = runK ev' lp' b_xmllex_scan_value_0 ⟨[(0, .rf 0 0), (9, .ag [.im (.s [39]), .im (.s [34])]), (10, .im (.i .i64 0))], scanO z l e⟩ [.ag l_xmllex_scan_value_0] some := rfl
  rw [e1]
  have h0 : decide ((0 : Int) < 2) = true := rfl
  have h1 : decide ((0 : Int) ≤ 0) = true := rfl
  have h3 : decide ((0 : Int) < ((2 : Nat) : Int)) = true := rfl
  have hw : IntKind.wrap .i64 ((0 : Int) + 1) = 1 := rfl
  simp only [scanO, b_xmllex_scan_value_0, h0, h1, h3, hw, ev_take, h, trimPrefix_no h, lg_xmllex_scan_value_0, norm, go_sem, Nat.reduceBEq, Nat.reduceLeDiff, Nat.reduceAdd, Nat.reduceSub, Nat.reduceMul, Nat.reduceEqDiff, Nat.reduceLT, ↓reduceIte, eq_self, reduceCtorEq, List.getD_nil, Bool.true_or, Bool.or_true, Bool.and_false, Bool.false_and, Int.reduceLT, Int.reduceLE, List.isEmpty_cons, Int.reduceToNat, UInt8.reduceOfNat, Int.reduceBEq, Int.reduceNe, instBEqOfDecidableEq]
/-- A value in signs: the text, whether there is one, what is left. -/
def valueB (l : List UInt8) : Option (List UInt8 × List UInt8 × Bool) := if Lib.hasPrefix l [39] then some (cutV1 l 39) else if Lib.hasPrefix l [34] then some (cutV1 l 34) else none
theorem ev_value_some (z : Bool) (l : List UInt8) (e : Int) (hl : l.length ≤ 1048576) {c : List UInt8 × List UInt8 × Bool} (h : valueB l = some c) :
    ev' f_xmllex_scan_value [.rf 0 0] (scanO z l e) = some (.ret [.im (.by_ z c.1), .im (.b (c.2.2 && decide (Lib.indexByte c.1 60 < 0)))] (scanO (!c.2.2) c.2.1 e)) := by
  rw [g_xmllex_scan_value rfl]
  unfold valueB at h
  cases h1 : Lib.hasPrefix l [39] with
  | true =>
    rw [h1, if_pos rfl, Option.some.injEq] at h
    subst h
    have := lp_value0 z l e hl h1
    simp only [scanO] at this ⊢
    simp only [c_xmllex_scan_value, lg_xmllex_scan_value_0, norm, this, go_sem, Nat.reduceBEq, Nat.reduceLeDiff, Nat.reduceAdd, Nat.reduceSub, Nat.reduceMul, Nat.reduceEqDiff, Nat.reduceLT, ↓reduceIte, eq_self, reduceCtorEq, List.getD_nil, Bool.true_or, Bool.or_true, Bool.and_false, Bool.false_and, Int.reduceLT, Int.reduceLE, List.isEmpty_cons, Int.reduceToNat, UInt8.reduceOfNat, Int.reduceBEq, Int.reduceNe, instBEqOfDecidableEq]
  | false =>
    rw [h1] at h
    cases h2 : Lib.hasPrefix l [34] with
    | true =>
      rw [h2] at h
      simp only [Bool.false_eq_true, if_false, if_true, Option.some.injEq] at h
      subst h
      have := lp_value0n z l e h1
      rw [lp_value1 z l e hl h2] at this
      simp only [scanO] at this ⊢
      simp only [c_xmllex_scan_value, lg_xmllex_scan_value_0, norm, this, go_sem, Nat.reduceBEq, Nat.reduceLeDiff, Nat.reduceAdd, Nat.reduceSub, Nat.reduceMul, Nat.reduceEqDiff, Nat.reduceLT, ↓reduceIte, eq_self, reduceCtorEq, List.getD_nil, Bool.true_or, Bool.or_true, Bool.and_false, Bool.false_and, Int.reduceLT, Int.reduceLE, List.isEmpty_cons, Int.reduceToNat, UInt8.reduceOfNat, Int.reduceBEq, Int.reduceNe, instBEqOfDecidableEq]
    | false =>
      rw [h2] at h
      simp at h
theorem ev_value_none (z : Bool) (l : List UInt8) (e : Int) (h : valueB l = none) :
    ev' f_xmllex_scan_value [.rf 0 0] (scanO z l e) = some (.ret [.im (.by_ true []), .im (.b false)] (scanO z l e)) := by
  rw [g_xmllex_scan_value rfl]
  unfold valueB at h
  cases h1 : Lib.hasPrefix l [39] with
  | true => rw [h1] at h; simp at h
  | false =>
    rw [h1] at h
    cases h2 : Lib.hasPrefix l [34] with
    | true => rw [h2] at h; simp at h
    | false =>
      obtain ⟨⟨en, ob⟩, i1, i2⟩ := lp_value1n z l e h2
      have := lp_value0n z l e h1
      rw [i1] at this
      simp only at i2
      subst i2
      simp only [scanO] at this ⊢
      simp only [c_xmllex_scan_value, lg_xmllex_scan_value_0, norm, this, go_sem, Nat.reduceBEq, Nat.reduceLeDiff, Nat.reduceAdd, Nat.reduceSub, Nat.reduceMul, Nat.reduceEqDiff, Nat.reduceLT, ↓reduceIte, eq_self, reduceCtorEq, List.getD_nil, Bool.true_or, Bool.or_true, Bool.and_false, Bool.false_and, Int.reduceLT, Int.reduceLE, List.isEmpty_cons, Int.reduceToNat, UInt8.reduceOfNat, Int.reduceBEq, Int.reduceNe, instBEqOfDecidableEq]
theorem replAll_len (old new : List UInt8) (h : new.length ≤ old.length) : ∀ (n : Nat) (l : List UInt8), (replAll old new n l).length ≤ l.length
  | 0, l => Nat.le_refl _
  | n + 1, l => by
    rw [replAll]
    split
    · rename_i h0
      have h1 := Lib.index_room l old h0
      have h2 := replAll_len old new h n (l.drop ((Lib.index l old).toNat + old.length))
      rw [List.length_drop] at h2
      rw [List.length_append, List.length_append, List.length_take]
      omega
    · exact Nat.le_refl _
def rAll (old new : List UInt8) (l : List UInt8) : List UInt8 := replAll old new l.length l
theorem rAll_len {old new l : List UInt8} (h : new.length ≤ old.length) : (rAll old new l).length ≤ l.length := replAll_len old new h _ _
theorem ev_ReplaceAll (z y x : Bool) (l p q : List UInt8) (h : l.length ≤ 1048576) (hp : p.isEmpty = false) (hq : q.length ≤ p.length) : ev' f_bytes_ReplaceAll [.im (.by_ z l), .im (.by_ y p), .im (.by_ x q)] [] = some (.ret [.im (.by_ false (rAll p q l))] []) :=
  ev_lib rfl (by
    have h1 : decide (l.length ≤ 1048576) = true := by simpa using h
    have h2 : decide (q.length ≤ p.length) = true := by simpa using hq
    simp only [l_ReplaceAll, h1, h2, hp, Bool.not_false, Bool.and_self, ifB_true]
    rfl)
def linesB (l : List UInt8) (v : Bool) : List UInt8 := bif v then rAll [9] [32] (rAll [10] [32] (rAll [13] [10] (rAll [13, 10] [10] l))) else rAll [13] [10] (rAll [13, 10] [10] l)
theorem linesB_len (l : List UInt8) (v : Bool) : (linesB l v).length ≤ l.length := by
  have h1 := rAll_len (old := [13, 10]) (new := [10]) (l := l) (by simp)
  have h2 := rAll_len (old := [13]) (new := [10]) (l := rAll [13, 10] [10] l) (by simp)
  have h3 := rAll_len (old := [10]) (new := [32]) (l := rAll [13] [10] (rAll [13, 10] [10] l)) (by simp)
  have h4 := rAll_len (old := [9]) (new := [32]) (l := rAll [10] [32] (rAll [13] [10] (rAll [13, 10] [10] l))) (by simp)
  unfold linesB
  cases v
  · simp only [cond_false]; omega
  · simp only [cond_true]; omega
theorem ev_lines (z : Bool) (l : List UInt8) (v : Bool) (hl : l.length ≤ 1048576) : ev' f_xmllex_lines [.im (.by_ z l), .im (.b v)] [] = some (.ret [.im (.by_ false (linesB l v))] []) := by
  rw [g_xmllex_lines rfl]
  have h1 := Nat.le_trans (rAll_len (old := [13, 10]) (new := [10]) (l := l) (by simp)) hl
  have h2 := Nat.le_trans (rAll_len (old := [13]) (new := [10]) (l := rAll [13, 10] [10] l) (by simp)) h1
  have h3 := Nat.le_trans (rAll_len (old := [10]) (new := [32]) (l := rAll [13] [10] (rAll [13, 10] [10] l)) (by simp)) h2
  have r1 := fun z y x => ev_ReplaceAll z y x l [13, 10] [10] hl rfl (by simp)
  have r2 := fun z y x => ev_ReplaceAll z y x _ [13] [10] h1 rfl (by simp)
  have r3 := fun z y x => ev_ReplaceAll z y x _ [10] [32] h2 rfl (by simp)
  have r4 := fun z y x => ev_ReplaceAll z y x _ [9] [32] h3 rfl (by simp)
  unfold linesB
  cases v <;> simp only [c_xmllex_lines, r1, r2, r3, r4, go_sem, Nat.reduceBEq, Nat.reduceLeDiff, Nat.reduceAdd, Nat.reduceSub, Nat.reduceMul, Nat.reduceEqDiff, Nat.reduceLT, ↓reduceIte, eq_self, reduceCtorEq, List.getD_nil, Bool.true_or, Bool.or_true, Bool.and_false, Bool.false_and, Int.reduceLT, Int.reduceLE, List.isEmpty_cons, Int.reduceToNat, UInt8.reduceOfNat, Int.reduceBEq, Int.reduceNe, instBEqOfDecidableEq]
theorem ev_sIndexByte (l : List UInt8) (c : Int) : ev' f_strings_IndexByte [.im (.s l), .im (.i .u8 c)] [] = some (.ret [.im (.i .i64 (Lib.indexByte l (UInt8.ofNat c.toNat)))] []) := ev_lib rfl rfl
theorem ev_sCutPrefix (l p : List UInt8) : ev' f_strings_CutPrefix [.im (.s l), .im (.s p)] [] = some (.ret [.im (.s (Lib.trimPrefix l p)), .im (.b (Lib.hasPrefix l p))] []) := ev_lib rfl rfl
def hexL : List UInt8 := [48, 49, 50, 51, 52, 53, 54, 55, 56, 57, 97, 98, 99, 100, 101, 102]
theorem indexByte_lt (l : List UInt8) (c : UInt8) : Lib.indexByte l c < (l.length : Int) + (if l = [] then 1 else 0) := by
  induction l with
  | nil => simp [Lib.indexByte]
  | cons b l ih =>
    unfold Lib.indexByte
    simp only [List.length_cons, reduceCtorEq, if_false]
    split
    · omega
    · split
      · omega
      · split at ih <;> rename_i h
        · subst h; simp [Lib.indexByte] at *
        · omega
def hexI (x : UInt8) : Int := bitOr .u8 (x.toNat : Int) (shrI .u8 (bitAnd .u8 (x.toNat : Int) 64) 1)
def hexD (x : UInt8) : Int := Lib.indexByte hexL (UInt8.ofNat (hexI x).toNat)
theorem hexD_lt (x : UInt8) : hexD x < 16 := indexByte_lt hexL _
def numF (base : Int) : List UInt8 → Int → Option Int
  | [], n => some n
  | x :: r, n => if hexD x < 0 ∨ base ≤ hexD x then none else if 1114111 < n * base + hexD x then none else numF base r (n * base + hexD x)
theorem lp_numeral (s l : List UInt8) (base : Int) (hb : base = 10 ∨ base = 16) (hl : l.length ≤ 1048576) (d : Nat) : ∀ (k : Nat) (n : Int), k + d = l.length → 0 ≤ n → n ≤ 1114111 →
    nx_xmllex_numeral_0 ⟨[(0, .im (.s s)), (1, .im (.i .i64 base)), (6, .im (.i .i64 n)), (11, .im (.by_ false l)), (12, .im (.i .i64 l.length)), (13, .im (.i .i64 k))], []⟩ = match numF base (l.drop k) n with
      | none => some (.rt, ⟨[(4, .im (.i .i64 0)), (5, .im (.b false))], []⟩)
      | some m => some (.ex 0, ⟨[(0, .im (.s s)), (1, .im (.i .i64 base)), (6, .im (.i .i64 m)), (11, .im (.by_ false l)), (12, .im (.i .i64 l.length)), (13, .im (.i .i64 l.length)), (14, .im (.b false))], []⟩) := by
  induction d with
  | zero =>
    intro k n hk h0 h1
    obtain rfl : k = l.length := by omega
    rw [nx_xmllex_numeral_0, List.drop_length, numF]
    have a1 : decide ((l.length : Int) < (l.length : Int)) = false := by simp
    simp only [b_xmllex_numeral_0, a1, go_sem, Nat.reduceBEq, Nat.reduceLeDiff, Nat.reduceAdd, Nat.reduceSub, Nat.reduceMul, Nat.reduceEqDiff, Nat.reduceLT, ↓reduceIte, eq_self, reduceCtorEq, List.getD_nil, Bool.true_or, Bool.or_true, Bool.and_false, Bool.false_and, Int.reduceLT, Int.reduceLE, List.isEmpty_cons, Int.reduceToNat, UInt8.reduceOfNat, Int.reduceBEq, Int.reduceNe, instBEqOfDecidableEq]
  | succ d ih =>
    intro k n hk h0 h1
    rw [nx_xmllex_numeral_0]
    have hlt : k < l.length := by omega
    have a1 := lt_dec hlt
    have a2 := ge0_dec k
    have hx : l.drop k = l.getD k 0 :: l.drop (k + 1) := by
      rw [List.drop_eq_getElem_cons hlt]
      simp only [List.getD, List.getElem?_eq_getElem hlt, Option.getD_some]
    rw [hx, numF]
    have ihx := ih (k + 1)
    have hge := Lib.indexByte_ge hexL (UInt8.ofNat (hexI (l.getD k 0)).toNat)
    have hlt2 := hexD_lt (l.getD k 0)
    obtain ⟨x, hxx⟩ : ∃ x, l.getD k 0 = x := ⟨_, rfl⟩
    rw [hxx] at hge hlt2 ⊢
    have hD : Lib.indexByte [48, 49, 50, 51, 52, 53, 54, 55, 56, 57, 97, 98, 99, 100, 101, 102] (UInt8.ofNat (bitOr .u8 (x.toNat : Int) (shrI .u8 (bitAnd .u8 (x.toNat : Int) 64) 1)).toNat) = hexD x := rfl
    have hge' : -1 ≤ hexD x := hge
    clear hge hx
    have hw1 : IntKind.wrap .i64 ((k : Int) + 1) = ((k + 1 : Nat) : Int) := by rw [wrap_i64 (by omega) (by omega)]; omega
    generalize hexD x = q at *
    by_cases c1 : q < 0
    · have d1 : decide (q < 0) = true := by simpa using c1
      rw [if_pos (.inl c1)]
      simp only [b_xmllex_numeral_0, a1, a2, ev_sIndexByte, hxx, hD, d1, go_sem, Nat.reduceBEq, Nat.reduceLeDiff, Nat.reduceAdd, Nat.reduceSub, Nat.reduceMul, Nat.reduceEqDiff, Nat.reduceLT, ↓reduceIte, eq_self, reduceCtorEq, List.getD_nil, Bool.true_or, Bool.or_true, Bool.and_false, Bool.false_and, Int.reduceLT, Int.reduceLE, List.isEmpty_cons, Int.reduceToNat, UInt8.reduceOfNat, Int.reduceBEq, Int.reduceNe, instBEqOfDecidableEq]
    · have d1 : decide (q < 0) = false := by simpa using c1
      by_cases c2 : base ≤ q
      · have d2 : decide (base ≤ q) = true := by simpa using c2
        rw [if_pos (.inr c2)]
        simp only [b_xmllex_numeral_0, a1, a2, ev_sIndexByte, hxx, hD, d1, d2, go_sem, Nat.reduceBEq, Nat.reduceLeDiff, Nat.reduceAdd, Nat.reduceSub, Nat.reduceMul, Nat.reduceEqDiff, Nat.reduceLT, ↓reduceIte, eq_self, reduceCtorEq, List.getD_nil, Bool.true_or, Bool.or_true, Bool.and_false, Bool.false_and, Int.reduceLT, Int.reduceLE, List.isEmpty_cons, Int.reduceToNat, UInt8.reduceOfNat, Int.reduceBEq, Int.reduceNe, instBEqOfDecidableEq]
      · have d2 : decide (base ≤ q) = false := by simpa using c2
        have hnb : 0 ≤ n * base ∧ n * base ≤ 17825776 := by rcases hb with rfl | rfl <;> omega
        have hw2 : IntKind.wrap .i64 (n * base) = n * base := by rw [wrap_i64 (by omega) (by omega)]
        have hw3 : IntKind.wrap .i64 (n * base + q) = n * base + q := by rw [wrap_i64 (by omega) (by omega)]
        rw [if_neg (by rintro (h | h) <;> contradiction)]
        by_cases c3 : 1114111 < n * base + q
        · have d3 : decide (1114111 < n * base + q) = true := by simpa using c3
          rw [if_pos c3]
          simp only [b_xmllex_numeral_0, a1, a2, ev_sIndexByte, hxx, hD, d1, d2, d3, hw2, hw3, go_sem, Nat.reduceBEq, Nat.reduceLeDiff, Nat.reduceAdd, Nat.reduceSub, Nat.reduceMul, Nat.reduceEqDiff, Nat.reduceLT, ↓reduceIte, eq_self, reduceCtorEq, List.getD_nil, Bool.true_or, Bool.or_true, Bool.and_false, Bool.false_and, Int.reduceLT, Int.reduceLE, List.isEmpty_cons, Int.reduceToNat, UInt8.reduceOfNat, Int.reduceBEq, Int.reduceNe, instBEqOfDecidableEq]
        · have d3 : decide (1114111 < n * base + q) = false := by simpa using c3
          rw [if_neg c3, ← ihx _ (by omega) (by omega) (by omega)]
          simp only [b_xmllex_numeral_0, a1, a2, ev_sIndexByte, hxx, hD, d1, d2, d3, hw1, hw2, hw3, lg_xmllex_numeral_0, norm, go_sem, Nat.reduceBEq, Nat.reduceLeDiff, Nat.reduceAdd, Nat.reduceSub, Nat.reduceMul, Nat.reduceEqDiff, Nat.reduceLT, ↓reduceIte, eq_self, reduceCtorEq, List.getD_nil, Bool.true_or, Bool.or_true, Bool.and_false, Bool.false_and, Int.reduceLT, Int.reduceLE, List.isEmpty_cons, Int.reduceToNat, UInt8.reduceOfNat, Int.reduceBEq, Int.reduceNe, instBEqOfDecidableEq]
theorem numF_le (base : Int) (hb : base = 10 ∨ base = 16) : ∀ (l : List UInt8) (n m : Int), 0 ≤ n → n ≤ 1114111 → numF base l n = some m → 0 ≤ m ∧ m ≤ 1114111
  | [], n, m, h0, h1, h => by
    simp only [numF, Option.some.injEq] at h
    omega
  | x :: r, n, m, h0, h1, h => by
    rw [numF] at h
    split at h
    · cases h
    · rename_i c1
      simp only [not_or] at c1
      split at h
      · cases h
      · have : 0 ≤ n * base := by rcases hb with rfl | rfl <;> omega
        exact numF_le base hb r _ m (by omega) (by omega) h
/-- The character that digits name. -/
def numeralB (l : List UInt8) (base : Int) : Int × Bool := match numF base l 0 with
  | none => (0, false)
  | some n => (n, (!(l == [])) && decide (wrongB (encB n) < 0) && encOk n)
theorem encB_len (n : Int) : (encB n).length ≤ 4 := by
  unfold encB
  split
  · unfold Lib.encodeRune Lib.encodeRuneZ
    rw [List.length_map]
    repeat' split
    all_goals simp
  · simp
theorem encB_ne {n : Int} (h : encOk n = true) : (encB n).isEmpty = false := by
  unfold encB
  rw [if_pos h]
  unfold Lib.encodeRune Lib.encodeRuneZ
  repeat' split
  all_goals rfl
theorem encB_e {n : Int} (h : encOk n = false) : encB n = [] := by
  unfold encB
  rw [h]
  rfl
theorem ev_numeral (l : List UInt8) (base : Int) (hb : base = 10 ∨ base = 16) (hl : l.length ≤ 1048576) : ev' f_xmllex_numeral [.im (.s l), .im (.i .i64 base)] [] = some (.ret [.im (.i .i64 (numeralB l base).1), .im (.b (numeralB l base).2)] []) := by
  rw [g_xmllex_numeral rfl]
  have h1 := lp_numeral l l base hb hl l.length 0 0 (by omega) (by omega) (by omega)
  rw [Int.natCast_zero, List.drop_zero] at h1
  unfold numeralB
  cases hf : numF base l 0 with
  | none =>
    rw [hf] at h1
    simp only [c_xmllex_numeral, lg_xmllex_numeral_0, norm, h1, go_sem, Nat.reduceBEq, Nat.reduceLeDiff, Nat.reduceAdd, Nat.reduceSub, Nat.reduceMul, Nat.reduceEqDiff, Nat.reduceLT, ↓reduceIte, eq_self, reduceCtorEq, List.getD_nil, Bool.true_or, Bool.or_true, Bool.and_false, Bool.false_and, Int.reduceLT, Int.reduceLE, List.isEmpty_cons, Int.reduceToNat, UInt8.reduceOfNat, Int.reduceBEq, Int.reduceNe, instBEqOfDecidableEq]
  | some m =>
    rw [hf] at h1
    have hwr := fun z => ev_Wrong z (encB m) (by have := encB_len m; omega)
    have e0 : (l != []) = !(l == []) := rfl
    cases hs : l == [] with
    | true => simp only [c_xmllex_numeral, lg_xmllex_numeral_0, norm, h1, e0, hs, Bool.not_true, Bool.false_and, go_sem, Nat.reduceBEq, Nat.reduceLeDiff, Nat.reduceAdd, Nat.reduceSub, Nat.reduceMul, Nat.reduceEqDiff, Nat.reduceLT, ↓reduceIte, eq_self, reduceCtorEq, List.getD_nil, Bool.true_or, Bool.or_true, Bool.and_false, Bool.false_and, Int.reduceLT, Int.reduceLE, List.isEmpty_cons, Int.reduceToNat, UInt8.reduceOfNat, Int.reduceBEq, Int.reduceNe, instBEqOfDecidableEq]
    | false =>
      cases h2 : decide (wrongB (encB m) < 0) with
      | false => simp only [c_xmllex_numeral, lg_xmllex_numeral_0, norm, h1, e0, hs, h2, ev_Encode, hwr, Bool.not_false, Bool.true_and, Bool.false_and, go_sem, Nat.reduceBEq, Nat.reduceLeDiff, Nat.reduceAdd, Nat.reduceSub, Nat.reduceMul, Nat.reduceEqDiff, Nat.reduceLT, ↓reduceIte, eq_self, reduceCtorEq, List.getD_nil, Bool.true_or, Bool.or_true, Bool.and_false, Bool.false_and, Int.reduceLT, Int.reduceLE, List.isEmpty_cons, Int.reduceToNat, UInt8.reduceOfNat, Int.reduceBEq, Int.reduceNe, instBEqOfDecidableEq]
      | true =>
        cases h3 : encOk m with
        | true =>
          have := encB_ne h3
          simp only [c_xmllex_numeral, lg_xmllex_numeral_0, norm, h1, e0, hs, h2, h3, this, ev_Encode, hwr, Bool.not_false, Bool.true_and, Bool.false_and, go_sem, Nat.reduceBEq, Nat.reduceLeDiff, Nat.reduceAdd, Nat.reduceSub, Nat.reduceMul, Nat.reduceEqDiff, Nat.reduceLT, ↓reduceIte, eq_self, reduceCtorEq, List.getD_nil, Bool.true_or, Bool.or_true, Bool.and_false, Bool.false_and, Int.reduceLT, Int.reduceLE, List.isEmpty_cons, Int.reduceToNat, UInt8.reduceOfNat, Int.reduceBEq, Int.reduceNe, instBEqOfDecidableEq]
        | false =>
          have := encB_e h3
          rw [this] at h2 hwr
          simp only [c_xmllex_numeral, lg_xmllex_numeral_0, norm, h1, e0, hs, h2, h3, this, ev_Encode, hwr, List.isEmpty_nil, Bool.not_false, Bool.true_and, Bool.false_and, go_sem, Nat.reduceBEq, Nat.reduceLeDiff, Nat.reduceAdd, Nat.reduceSub, Nat.reduceMul, Nat.reduceEqDiff, Nat.reduceLT, ↓reduceIte, eq_self, reduceCtorEq, List.getD_nil, Bool.true_or, Bool.or_true, Bool.and_false, Bool.false_and, Int.reduceLT, Int.reduceLE, List.isEmpty_cons, Int.reduceToNat, UInt8.reduceOfNat, Int.reduceBEq, Int.reduceNe, instBEqOfDecidableEq]
def namedB (s : List UInt8) : Int × Bool :=
  if s = [108, 116] then (60, true) else if s = [103, 116] then (62, true) else if s = [97, 109, 112] then (38, true) else if s = [97, 112, 111, 115] then (39, true) else if s = [113, 117, 111, 116] then (34, true)
  else if Lib.hasPrefix s [35] = false then (0, false) else if Lib.hasPrefix (Lib.trimPrefix s [35]) [120] then numeralB (Lib.trimPrefix (Lib.trimPrefix s [35]) [120]) 16 else numeralB (Lib.trimPrefix s [35]) 10
theorem ev_named (s : List UInt8) (hl : s.length ≤ 1048576) : ev' f_xmllex_named [.im (.s s)] [] = some (.ret [.im (.i .i64 (namedB s).1), .im (.b (namedB s).2)] []) := by
  rw [g_xmllex_named rfl]
  have hl1 := Nat.le_trans (trimPrefix_len s [35]) hl
  have hl2 := Nat.le_trans (trimPrefix_len (Lib.trimPrefix s [35]) [120]) hl1
  have n1 := ev_numeral _ 10 (.inl rfl) hl1
  have n2 := ev_numeral _ 16 (.inr rfl) hl2
  unfold namedB
  by_cases c1 : s = [108, 116]
  · rw [if_pos c1]
    have d1 : (s == [108, 116]) = true := by simpa using c1
    simp only [c_xmllex_named, d1, go_sem, Nat.reduceBEq, Nat.reduceLeDiff, Nat.reduceAdd, Nat.reduceSub, Nat.reduceMul, Nat.reduceEqDiff, Nat.reduceLT, ↓reduceIte, eq_self, reduceCtorEq, List.getD_nil, Bool.true_or, Bool.or_true, Bool.and_false, Bool.false_and, Int.reduceLT, Int.reduceLE, List.isEmpty_cons, Int.reduceToNat, UInt8.reduceOfNat, Int.reduceBEq, Int.reduceNe, instBEqOfDecidableEq]
  rw [if_neg c1]
  have d1 : (s == [108, 116]) = false := by simpa using c1
  by_cases c2 : s = [103, 116]
  · rw [if_pos c2]
    have d2 : (s == [103, 116]) = true := by simpa using c2
    simp only [c_xmllex_named, d1, d2, go_sem, Nat.reduceBEq, Nat.reduceLeDiff, Nat.reduceAdd, Nat.reduceSub, Nat.reduceMul, Nat.reduceEqDiff, Nat.reduceLT, ↓reduceIte, eq_self, reduceCtorEq, List.getD_nil, Bool.true_or, Bool.or_true, Bool.and_false, Bool.false_and, Int.reduceLT, Int.reduceLE, List.isEmpty_cons, Int.reduceToNat, UInt8.reduceOfNat, Int.reduceBEq, Int.reduceNe, instBEqOfDecidableEq]
  rw [if_neg c2]
  have d2 : (s == [103, 116]) = false := by simpa using c2
  by_cases c3 : s = [97, 109, 112]
  · rw [if_pos c3]
    have d3 : (s == [97, 109, 112]) = true := by simpa using c3
    simp only [c_xmllex_named, d1, d2, d3, go_sem, Nat.reduceBEq, Nat.reduceLeDiff, Nat.reduceAdd, Nat.reduceSub, Nat.reduceMul, Nat.reduceEqDiff, Nat.reduceLT, ↓reduceIte, eq_self, reduceCtorEq, List.getD_nil, Bool.true_or, Bool.or_true, Bool.and_false, Bool.false_and, Int.reduceLT, Int.reduceLE, List.isEmpty_cons, Int.reduceToNat, UInt8.reduceOfNat, Int.reduceBEq, Int.reduceNe, instBEqOfDecidableEq]
  rw [if_neg c3]
  have d3 : (s == [97, 109, 112]) = false := by simpa using c3
  by_cases c4 : s = [97, 112, 111, 115]
  · rw [if_pos c4]
    have d4 : (s == [97, 112, 111, 115]) = true := by simpa using c4
    simp only [c_xmllex_named, d1, d2, d3, d4, go_sem, Nat.reduceBEq, Nat.reduceLeDiff, Nat.reduceAdd, Nat.reduceSub, Nat.reduceMul, Nat.reduceEqDiff, Nat.reduceLT, ↓reduceIte, eq_self, reduceCtorEq, List.getD_nil, Bool.true_or, Bool.or_true, Bool.and_false, Bool.false_and, Int.reduceLT, Int.reduceLE, List.isEmpty_cons, Int.reduceToNat, UInt8.reduceOfNat, Int.reduceBEq, Int.reduceNe, instBEqOfDecidableEq]
  rw [if_neg c4]
  have d4 : (s == [97, 112, 111, 115]) = false := by simpa using c4
  by_cases c5 : s = [113, 117, 111, 116]
  · rw [if_pos c5]
    have d5 : (s == [113, 117, 111, 116]) = true := by simpa using c5
    simp only [c_xmllex_named, d1, d2, d3, d4, d5, go_sem, Nat.reduceBEq, Nat.reduceLeDiff, Nat.reduceAdd, Nat.reduceSub, Nat.reduceMul, Nat.reduceEqDiff, Nat.reduceLT, ↓reduceIte, eq_self, reduceCtorEq, List.getD_nil, Bool.true_or, Bool.or_true, Bool.and_false, Bool.false_and, Int.reduceLT, Int.reduceLE, List.isEmpty_cons, Int.reduceToNat, UInt8.reduceOfNat, Int.reduceBEq, Int.reduceNe, instBEqOfDecidableEq]
  rw [if_neg c5]
  have d5 : (s == [113, 117, 111, 116]) = false := by simpa using c5
  cases c6 : Lib.hasPrefix s [35] with
  | false =>
    rw [if_pos rfl]
    simp only [c_xmllex_named, d1, d2, d3, d4, d5, ev_sCutPrefix, c6, go_sem, Nat.reduceBEq, Nat.reduceLeDiff, Nat.reduceAdd, Nat.reduceSub, Nat.reduceMul, Nat.reduceEqDiff, Nat.reduceLT, ↓reduceIte, eq_self, reduceCtorEq, List.getD_nil, Bool.true_or, Bool.or_true, Bool.and_false, Bool.false_and, Int.reduceLT, Int.reduceLE, List.isEmpty_cons, Int.reduceToNat, UInt8.reduceOfNat, Int.reduceBEq, Int.reduceNe, instBEqOfDecidableEq]
  | true =>
    rw [if_neg (by simp)]
    cases c7 : Lib.hasPrefix (Lib.trimPrefix s [35]) [120] with
    | true =>
      rw [if_pos rfl]
      simp only [c_xmllex_named, d1, d2, d3, d4, d5, ev_sCutPrefix, c6, c7, n2, go_sem, Nat.reduceBEq, Nat.reduceLeDiff, Nat.reduceAdd, Nat.reduceSub, Nat.reduceMul, Nat.reduceEqDiff, Nat.reduceLT, ↓reduceIte, eq_self, reduceCtorEq, List.getD_nil, Bool.true_or, Bool.or_true, Bool.and_false, Bool.false_and, Int.reduceLT, Int.reduceLE, List.isEmpty_cons, Int.reduceToNat, UInt8.reduceOfNat, Int.reduceBEq, Int.reduceNe, instBEqOfDecidableEq]
    | false =>
      rw [if_neg (by simp)]
      simp only [c_xmllex_named, d1, d2, d3, d4, d5, ev_sCutPrefix, c6, c7, n1, go_sem, Nat.reduceBEq, Nat.reduceLeDiff, Nat.reduceAdd, Nat.reduceSub, Nat.reduceMul, Nat.reduceEqDiff, Nat.reduceLT, ↓reduceIte, eq_self, reduceCtorEq, List.getD_nil, Bool.true_or, Bool.or_true, Bool.and_false, Bool.false_and, Int.reduceLT, Int.reduceLE, List.isEmpty_cons, Int.reduceToNat, UInt8.reduceOfNat, Int.reduceBEq, Int.reduceNe, instBEqOfDecidableEq]
end Go.Proofs.Av
