/- chars: what its functions compute. -/
import Derived.Test.YtcfjcoglhimdeaaDoorXBase
set_option linter.unusedSimpArgs false
set_option linter.unusedVariables false
namespace Go.Proofs.Av
attribute [local congr] ifB_congr andThen_congr bind_congr' fend_congr guarded_congr branch_congr behind_congr again_congr
set_option maxHeartbeats 1000000
set_option linter.unusedSimpArgs false
set_option linter.unusedVariables false

def spaceB (r : Int) : Bool := r == 32 || r == 9 || r == 10 || r == 13
theorem ev_Space (r : Int) : ev' f_chars_Space [.im (.i .i64 r)] [] = some (.ret [.im (.b (spaceB r))] []) := by
  rw [g_chars_Space rfl]
  simp only [c_chars_Space, go_sem, Nat.reduceBEq, Nat.reduceLeDiff, Nat.reduceAdd, Nat.reduceSub, Nat.reduceMul, Nat.reduceEqDiff, Nat.reduceLT, ↓reduceIte, eq_self, reduceCtorEq, List.getD_nil, Bool.true_or, Bool.or_true, Bool.and_false, Bool.false_and, Int.reduceLT, Int.reduceLE, List.isEmpty_cons, Int.reduceToNat, UInt8.reduceOfNat, Int.reduceBEq, Int.reduceNe, instBEqOfDecidableEq]
  unfold spaceB
  repeat' (first | (refine brK_cases ?_ ?_ <;> intro hc <;> simp only [hc, go_sem, Nat.reduceBEq, Nat.reduceLeDiff, Nat.reduceAdd, Nat.reduceSub, Nat.reduceMul, Nat.reduceEqDiff, Nat.reduceLT, ↓reduceIte, eq_self, reduceCtorEq, List.getD_nil, Bool.true_or, Bool.or_true, Bool.and_false, Bool.false_and, Int.reduceLT, Int.reduceLE, List.isEmpty_cons, Int.reduceToNat, UInt8.reduceOfNat, Int.reduceBEq, Int.reduceNe, instBEqOfDecidableEq]) | (refine gdK_cases ?_ ?_ <;> intro hc <;> simp only [hc, go_sem, Nat.reduceBEq, Nat.reduceLeDiff, Nat.reduceAdd, Nat.reduceSub, Nat.reduceMul, Nat.reduceEqDiff, Nat.reduceLT, ↓reduceIte, eq_self, reduceCtorEq, List.getD_nil, Bool.true_or, Bool.or_true, Bool.and_false, Bool.false_and, Int.reduceLT, Int.reduceLE, List.isEmpty_cons, Int.reduceToNat, UInt8.reduceOfNat, Int.reduceBEq, Int.reduceNe, instBEqOfDecidableEq]) | (refine thK_pick_cases ?_ ?_ <;> intro hc <;> simp only [hc, go_sem, Nat.reduceBEq, Nat.reduceLeDiff, Nat.reduceAdd, Nat.reduceSub, Nat.reduceMul, Nat.reduceEqDiff, Nat.reduceLT, ↓reduceIte, eq_self, reduceCtorEq, List.getD_nil, Bool.true_or, Bool.or_true, Bool.and_false, Bool.false_and, Int.reduceLT, Int.reduceLE, List.isEmpty_cons, Int.reduceToNat, UInt8.reduceOfNat, Int.reduceBEq, Int.reduceNe, instBEqOfDecidableEq]))
  all_goals rfl
def spanB (r : Int) (t : T) : Bool := decide (getI (t.cells.getD 0 (.b false)) ≤ r) && decide (r ≤ getI (t.cells.getD 1 (.b false)))
def inB (r : Int) (l : List T) : Bool := l.any (spanB r)
theorem lp_in (r : Int) (z : Bool) (xs : List T) (hx : xs.length ≤ 1000000) (d : Nat) : ∀ k, k + d = xs.length →
    ∃ s, nx_chars_in_0 ⟨[(0, .im (.i .i64 r)), (7, .im (.sl z t_chars_span xs)), (8, .im (.i .i64 xs.length)), (9, .im (.i .i64 (k : Int)))], []⟩ = some (if inB r (xs.drop k) then .rt else .ex 0, s) ∧
      (inB r (xs.drop k) = true → ∃ x y, s = ⟨[(4, .im (.b true))], [(2096, .box [.im x, .im y])]⟩) ∧ (inB r (xs.drop k) = false → s.obs = []) := by
  induction d with
  | zero =>
    intro k hk
    have h1 : decide ((k : Int) < (xs.length : Int)) = false := by simp; omega
    have h2 : inB r (xs.drop k) = false := by rw [List.drop_of_length_le (by omega)]; rfl
    simp only [nx_chars_in_0, b_chars_in_0, h1, h2, go_sem, Nat.reduceBEq, Nat.reduceLeDiff, Nat.reduceAdd, Nat.reduceSub, Nat.reduceMul, Nat.reduceEqDiff, Nat.reduceLT, ↓reduceIte, eq_self, reduceCtorEq, List.getD_nil, Bool.true_or, Bool.or_true, Bool.and_false, Bool.false_and, Int.reduceLT, Int.reduceLE, List.isEmpty_cons, Int.reduceToNat, UInt8.reduceOfNat, Int.reduceBEq, Int.reduceNe, instBEqOfDecidableEq]
    exact ⟨_, rfl, (fun h => by cases h), fun _ => rfl⟩
  | succ d ih =>
    intro k hk
    have h1 : decide ((k : Int) < (xs.length : Int)) = true := by simp; omega
    have h0 : decide ((0 : Int) ≤ (k : Int)) = true := by simp
    have hw : IntKind.wrap .i64 ((k : Int) + 1) = ((k + 1 : Nat) : Int) := by rw [wrap_i64 (by omega) (by omega)]; omega
    have hd : inB r (xs.drop k) = (spanB r (xs.getD k (.b false)) || inB r (xs.drop (k + 1))) := by
      have hlt : k < xs.length := by omega
      unfold inB
      rw [List.drop_eq_getElem_cons hlt, List.any_cons]
      simp only [List.getD, List.getElem?_eq_getElem hlt, Option.getD_some]
    have ih' := ih (k + 1) (by omega)
    have no : spanB r (xs.getD k (.b false)) = false → inB r (xs.drop k) = inB r (xs.drop (k + 1)) := fun h => by rw [hd, h, Bool.false_or]
    rw [nx_chars_in_0]
    simp only [b_chars_in_0, h1, h0, hw, go_sem, Nat.reduceBEq, Nat.reduceLeDiff, Nat.reduceAdd, Nat.reduceSub, Nat.reduceMul, Nat.reduceEqDiff, Nat.reduceLT, ↓reduceIte, eq_self, reduceCtorEq, List.getD_nil, Bool.true_or, Bool.or_true, Bool.and_false, Bool.false_and, Int.reduceLT, Int.reduceLE, List.isEmpty_cons, Int.reduceToNat, UInt8.reduceOfNat, Int.reduceBEq, Int.reduceNe, instBEqOfDecidableEq]
    by_cases hs : spanB r (xs.getD k (.b false)) = true
    · have hd' : inB r (xs.drop k) = true := by rw [hd, hs]; rfl
      simp only [spanB, Bool.and_eq_true] at hs
      obtain ⟨a1, a2⟩ := hs
      simp only [a1, a2, hd', go_sem, Nat.reduceBEq, Nat.reduceLeDiff, Nat.reduceAdd, Nat.reduceSub, Nat.reduceMul, Nat.reduceEqDiff, Nat.reduceLT, ↓reduceIte, eq_self, reduceCtorEq, List.getD_nil, Bool.true_or, Bool.or_true, Bool.and_false, Bool.false_and, Int.reduceLT, Int.reduceLE, List.isEmpty_cons, Int.reduceToNat, UInt8.reduceOfNat, Int.reduceBEq, Int.reduceNe, instBEqOfDecidableEq]
      exact ⟨_, rfl, fun _ => ⟨_, _, rfl⟩, fun h => by cases h⟩
    · rw [Bool.not_eq_true] at hs
      rw [no hs]
      simp only [spanB, Bool.and_eq_false_iff] at hs
      by_cases a1 : decide (getI ((xs.getD k (.b false)).cells.getD 0 (.b false)) ≤ r) = true
      · have a2 := hs.resolve_left (by rw [a1]; simp)
        simp only [a1, a2, hw, lg_chars_in_0, norm, go_sem, Nat.reduceBEq, Nat.reduceLeDiff, Nat.reduceAdd, Nat.reduceSub, Nat.reduceMul, Nat.reduceEqDiff, Nat.reduceLT, ↓reduceIte, eq_self, reduceCtorEq, List.getD_nil, Bool.true_or, Bool.or_true, Bool.and_false, Bool.false_and, Int.reduceLT, Int.reduceLE, List.isEmpty_cons, Int.reduceToNat, UInt8.reduceOfNat, Int.reduceBEq, Int.reduceNe, instBEqOfDecidableEq]
        exact ih'
      · rw [Bool.not_eq_true] at a1
        simp only [a1, hw, lg_chars_in_0, norm, go_sem, Nat.reduceBEq, Nat.reduceLeDiff, Nat.reduceAdd, Nat.reduceSub, Nat.reduceMul, Nat.reduceEqDiff, Nat.reduceLT, ↓reduceIte, eq_self, reduceCtorEq, List.getD_nil, Bool.true_or, Bool.or_true, Bool.and_false, Bool.false_and, Int.reduceLT, Int.reduceLE, List.isEmpty_cons, Int.reduceToNat, UInt8.reduceOfNat, Int.reduceBEq, Int.reduceNe, instBEqOfDecidableEq]
        exact ih'
theorem ev_in (r : Int) (z : Bool) (xs : List T) (hx : xs.length ≤ 1000000) : ev' f_chars_in [.im (.i .i64 r), .im (.sl z t_chars_span xs)] [] = some (.ret [.im (.b (inB r xs))] []) := by
  rw [g_chars_in rfl]
  obtain ⟨s, h1, h2, h3⟩ := lp_in r z xs hx xs.length 0 (by omega)
  rw [List.drop_zero, Int.natCast_zero] at *
  simp only [c_chars_in, lg_chars_in_0, norm, h1, go_sem, Nat.reduceBEq, Nat.reduceLeDiff, Nat.reduceAdd, Nat.reduceSub, Nat.reduceMul, Nat.reduceEqDiff, Nat.reduceLT, ↓reduceIte, eq_self, reduceCtorEq, List.getD_nil, Bool.true_or, Bool.or_true, Bool.and_false, Bool.false_and, Int.reduceLT, Int.reduceLE, List.isEmpty_cons, Int.reduceToNat, UInt8.reduceOfNat, Int.reduceBEq, Int.reduceNe, instBEqOfDecidableEq]
  cases hb : inB r xs with
  | true =>
    obtain ⟨x, y, rfl⟩ := h2 hb
    simp only [go_sem, Nat.reduceBEq, Nat.reduceLeDiff, Nat.reduceAdd, Nat.reduceSub, Nat.reduceMul, Nat.reduceEqDiff, Nat.reduceLT, ↓reduceIte, eq_self, reduceCtorEq, List.getD_nil, Bool.true_or, Bool.or_true, Bool.and_false, Bool.false_and, Int.reduceLT, Int.reduceLE, List.isEmpty_cons, Int.reduceToNat, UInt8.reduceOfNat, Int.reduceBEq, Int.reduceNe, instBEqOfDecidableEq]
  | false =>
    obtain ⟨e, l⟩ := s
    have := h3 hb
    simp only at this
    subst this
    simp only [go_sem, Nat.reduceBEq, Nat.reduceLeDiff, Nat.reduceAdd, Nat.reduceSub, Nat.reduceMul, Nat.reduceEqDiff, Nat.reduceLT, ↓reduceIte, eq_self, reduceCtorEq, List.getD_nil, Bool.true_or, Bool.or_true, Bool.and_false, Bool.false_and, Int.reduceLT, Int.reduceLE, List.isEmpty_cons, Int.reduceToNat, UInt8.reduceOfNat, Int.reduceBEq, Int.reduceNe, instBEqOfDecidableEq]
/-- Some ranges, each by its ends. -/
def within (r : Int) : List (Int × Int) → Bool
  | [] => false
  | p :: l => (decide (p.1 ≤ r) && decide (r ≤ p.2)) || within r l
def pairT (p : Int × Int) : T := .ag [.i .i64 p.1, .i .i64 p.2]
theorem inB_pairs (r : Int) : ∀ l : List (Int × Int), inB r (l.map pairT) = within r l
  | [] => rfl
  | p :: l => by
    have ih := inB_pairs r l
    unfold inB at ih ⊢
    rw [List.map_cons, List.any_cons, ih]
    rfl
def xmlL : List (Int × Int) := [(0x20, 0xd7ff), (9, 10), (13, 13), (0xe000, 0xfffd), (0x10000, 0x10ffff)]
def ofXmlB (r : Int) : Bool := within r xmlL
theorem ev_ofXML (r : Int) : ev' f_chars_ofXML [.im (.i .i64 r)] [] = some (.ret [.im (.b (ofXmlB r))] []) := by
  rw [g_chars_ofXML rfl]
  simp only [c_chars_ofXML, ev_in, go_sem, Nat.reduceBEq, Nat.reduceLeDiff, Nat.reduceAdd, Nat.reduceSub, Nat.reduceMul, Nat.reduceEqDiff, Nat.reduceLT, ↓reduceIte, eq_self, reduceCtorEq, List.getD_nil, Bool.true_or, Bool.or_true, Bool.and_false, Bool.false_and, Int.reduceLT, Int.reduceLE, List.isEmpty_cons, Int.reduceToNat, UInt8.reduceOfNat, Int.reduceBEq, Int.reduceNe, instBEqOfDecidableEq]
  exact congrArg (fun b => some (Res.ret [V.im (.b b)] [])) (inB_pairs r xmlL)
def nameL : List (Int × Int) := [(0xc0, 0xd6), (0xd8, 0xf6), (0xf8, 0x2ff), (0x370, 0x37d), (0x37f, 0x1fff), (0x200c, 0x200d), (0x2070, 0x218f), (0x2c00, 0x2fef), (0x3001, 0xd7ff), (0xf900, 0xfdcf), (0xfdf0, 0xfffd), (0x10000, 0xeffff)]
def or20 (r : Int) : Int := bitOr .i64 r 32
def firstB (r : Int) : Bool := if r < 128 then (decide (97 ≤ or20 r) && decide (or20 r ≤ 122)) || r == 95 else within r nameL
theorem ev_First (r : Int) : ev' f_chars_First [.im (.i .i64 r)] [] = some (.ret [.im (.b (firstB r))] []) := by
  rw [g_chars_First rfl]
  simp only [c_chars_First, ev_in, go_sem, Nat.reduceBEq, Nat.reduceLeDiff, Nat.reduceAdd, Nat.reduceSub, Nat.reduceMul, Nat.reduceEqDiff, Nat.reduceLT, ↓reduceIte, eq_self, reduceCtorEq, List.getD_nil, Bool.true_or, Bool.or_true, Bool.and_false, Bool.false_and, Int.reduceLT, Int.reduceLE, List.isEmpty_cons, Int.reduceToNat, UInt8.reduceOfNat, Int.reduceBEq, Int.reduceNe, instBEqOfDecidableEq]
  unfold firstB
  refine brK_cases ?_ ?_ <;> intro h0 <;> simp only [h0, ev_in, go_sem, Nat.reduceBEq, Nat.reduceLeDiff, Nat.reduceAdd, Nat.reduceSub, Nat.reduceMul, Nat.reduceEqDiff, Nat.reduceLT, ↓reduceIte, eq_self, reduceCtorEq, List.getD_nil, Bool.true_or, Bool.or_true, Bool.and_false, Bool.false_and, Int.reduceLT, Int.reduceLE, List.isEmpty_cons, Int.reduceToNat, UInt8.reduceOfNat, Int.reduceBEq, Int.reduceNe, instBEqOfDecidableEq]
  · simp only [decide_eq_true_eq] at h0
    rw [if_pos h0]
    have e2 : bitOr .i64 r 32 = or20 r := rfl
    rw [e2]
    generalize or20 r = m at *
    repeat' (first | (refine brK_cases ?_ ?_ <;> intro hc <;> simp only [hc, e2, go_sem, Nat.reduceBEq, Nat.reduceLeDiff, Nat.reduceAdd, Nat.reduceSub, Nat.reduceMul, Nat.reduceEqDiff, Nat.reduceLT, ↓reduceIte, eq_self, reduceCtorEq, List.getD_nil, Bool.true_or, Bool.or_true, Bool.and_false, Bool.false_and, Int.reduceLT, Int.reduceLE, List.isEmpty_cons, Int.reduceToNat, UInt8.reduceOfNat, Int.reduceBEq, Int.reduceNe, instBEqOfDecidableEq]) | (refine gdK_cases ?_ ?_ <;> intro hc <;> simp only [hc, e2, go_sem, Nat.reduceBEq, Nat.reduceLeDiff, Nat.reduceAdd, Nat.reduceSub, Nat.reduceMul, Nat.reduceEqDiff, Nat.reduceLT, ↓reduceIte, eq_self, reduceCtorEq, List.getD_nil, Bool.true_or, Bool.or_true, Bool.and_false, Bool.false_and, Int.reduceLT, Int.reduceLE, List.isEmpty_cons, Int.reduceToNat, UInt8.reduceOfNat, Int.reduceBEq, Int.reduceNe, instBEqOfDecidableEq]) | (refine thK_pick_cases ?_ ?_ <;> intro hc <;> simp only [hc, e2, go_sem, Nat.reduceBEq, Nat.reduceLeDiff, Nat.reduceAdd, Nat.reduceSub, Nat.reduceMul, Nat.reduceEqDiff, Nat.reduceLT, ↓reduceIte, eq_self, reduceCtorEq, List.getD_nil, Bool.true_or, Bool.or_true, Bool.and_false, Bool.false_and, Int.reduceLT, Int.reduceLE, List.isEmpty_cons, Int.reduceToNat, UInt8.reduceOfNat, Int.reduceBEq, Int.reduceNe, instBEqOfDecidableEq]))
    all_goals clear e2
    all_goals (simp_all <;> omega)
  · simp only [decide_eq_false_iff_not] at h0
    rw [if_neg h0]
    exact congrArg (fun b => some (Res.ret [V.im (.b b)] [])) (inB_pairs r nameL)
def laterL : List (Int × Int) := [(48, 57), (0x300, 0x36f), (0x203f, 0x2040)]
def laterB (r : Int) : Bool := firstB r || r == 45 || r == 46 || r == 183 || within r laterL
theorem ev_Later (r : Int) : ev' f_chars_Later [.im (.i .i64 r)] [] = some (.ret [.im (.b (laterB r))] []) := by
  rw [g_chars_Later rfl]
  simp only [c_chars_Later, ev_in, ev_First, go_sem, Nat.reduceBEq, Nat.reduceLeDiff, Nat.reduceAdd, Nat.reduceSub, Nat.reduceMul, Nat.reduceEqDiff, Nat.reduceLT, ↓reduceIte, eq_self, reduceCtorEq, List.getD_nil, Bool.true_or, Bool.or_true, Bool.and_false, Bool.false_and, Int.reduceLT, Int.reduceLE, List.isEmpty_cons, Int.reduceToNat, UInt8.reduceOfNat, Int.reduceBEq, Int.reduceNe, instBEqOfDecidableEq]
  unfold laterB
  repeat' (first | (refine brK_cases ?_ ?_ <;> intro hc <;> simp only [hc, ev_in, go_sem, Nat.reduceBEq, Nat.reduceLeDiff, Nat.reduceAdd, Nat.reduceSub, Nat.reduceMul, Nat.reduceEqDiff, Nat.reduceLT, ↓reduceIte, eq_self, reduceCtorEq, List.getD_nil, Bool.true_or, Bool.or_true, Bool.and_false, Bool.false_and, Int.reduceLT, Int.reduceLE, List.isEmpty_cons, Int.reduceToNat, UInt8.reduceOfNat, Int.reduceBEq, Int.reduceNe, instBEqOfDecidableEq]) | (refine gdK_cases ?_ ?_ <;> intro hc <;> simp only [hc, ev_in, go_sem, Nat.reduceBEq, Nat.reduceLeDiff, Nat.reduceAdd, Nat.reduceSub, Nat.reduceMul, Nat.reduceEqDiff, Nat.reduceLT, ↓reduceIte, eq_self, reduceCtorEq, List.getD_nil, Bool.true_or, Bool.or_true, Bool.and_false, Bool.false_and, Int.reduceLT, Int.reduceLE, List.isEmpty_cons, Int.reduceToNat, UInt8.reduceOfNat, Int.reduceBEq, Int.reduceNe, instBEqOfDecidableEq]) | (refine thK_pick_cases ?_ ?_ <;> intro hc <;> simp only [hc, ev_in, go_sem, Nat.reduceBEq, Nat.reduceLeDiff, Nat.reduceAdd, Nat.reduceSub, Nat.reduceMul, Nat.reduceEqDiff, Nat.reduceLT, ↓reduceIte, eq_self, reduceCtorEq, List.getD_nil, Bool.true_or, Bool.or_true, Bool.and_false, Bool.false_and, Int.reduceLT, Int.reduceLE, List.isEmpty_cons, Int.reduceToNat, UInt8.reduceOfNat, Int.reduceBEq, Int.reduceNe, instBEqOfDecidableEq]))
  all_goals first
    | rfl
    | exact congrArg (fun b => some (Res.ret [V.im (.b b)] [])) (inB_pairs r laterL)
/-- The first character, and how many bytes it has. -/
def decC (l : List UInt8) : Int × Int := if ((decG l).1 : Int) = 65533 ∧ ((decG l).2 : Int) ≤ 1 then (0, 0) else ((decG l).1, (decG l).2)
theorem ev_DecodeRune (z : Bool) (l : List UInt8) : ev' f_unicode_utf8_DecodeRune [.im (.by_ z l)] [] = some (.ret [.im (.i .i32 ((decG l).1 : Int)), .im (.i .i64 ((decG l).2 : Int))] []) := ev_lib rfl rfl
theorem wrap_id {k : IntKind} {n : Int} (h : k.min ≤ n) (h2 : n ≤ k.max) : k.wrap n = n := by
  cases k <;> simp [IntKind.wrap, IntKind.min, IntKind.max, IntKind.bits, IntKind.signed] at * <;> (try split) <;> omega
theorem decG_le (l : List UInt8) : (decG l).1 ≤ 1114111 := by
  unfold decG Lib.decodeGoB
  split
  · simp
  · exact Lib.rune_le _ _
theorem decN_le (n b0 b1 b2 b3 : Nat) (hn : 1 ≤ n) : (Lib.decodeN n b0 b1 b2 b3).2 ≤ n := by
  unfold Lib.decodeN
  repeat' split
  all_goals (simp only; omega)
theorem decG_len (l : List UInt8) : (decG l).2 ≤ l.length := by
  unfold decG Lib.decodeGoB
  split
  · simp
  · rename_i h
    rw [Lib.decode_at]
    have hs : (⟨l.toArray⟩ : ByteArray).size = l.length := by simp [ByteArray.size]
    have := decN_le ((⟨l.toArray⟩ : ByteArray).size - 0) ((⟨l.toArray⟩ : ByteArray).get! 0).toNat ((⟨l.toArray⟩ : ByteArray).get! (0 + 1)).toNat ((⟨l.toArray⟩ : ByteArray).get! (0 + 2)).toNat ((⟨l.toArray⟩ : ByteArray).get! (0 + 3)).toNat (by omega)
    omega
theorem ev_Decode (z : Bool) (l : List UInt8) : ev' f_chars_Decode [.im (.by_ z l)] [] = some (.ret [.im (.i .i64 (decC l).1), .im (.i .i64 (decC l).2)] []) := by
  rw [g_chars_Decode rfl]
  have hw : IntKind.wrap .i64 ((decG l).1 : Int) = ((decG l).1 : Int) := by
    have := decG_le l
    rw [wrap_i64 (by omega) (by omega)]
  simp only [c_chars_Decode, ev_DecodeRune, hw, go_sem, Nat.reduceBEq, Nat.reduceLeDiff, Nat.reduceAdd, Nat.reduceSub, Nat.reduceMul, Nat.reduceEqDiff, Nat.reduceLT, ↓reduceIte, eq_self, reduceCtorEq, List.getD_nil, Bool.true_or, Bool.or_true, Bool.and_false, Bool.false_and, Int.reduceLT, Int.reduceLE, List.isEmpty_cons, Int.reduceToNat, UInt8.reduceOfNat, Int.reduceBEq, Int.reduceNe, instBEqOfDecidableEq]
  unfold decC
  repeat' (first | (refine brK_cases ?_ ?_ <;> intro hc <;> simp only [hc, hw, go_sem, Nat.reduceBEq, Nat.reduceLeDiff, Nat.reduceAdd, Nat.reduceSub, Nat.reduceMul, Nat.reduceEqDiff, Nat.reduceLT, ↓reduceIte, eq_self, reduceCtorEq, List.getD_nil, Bool.true_or, Bool.or_true, Bool.and_false, Bool.false_and, Int.reduceLT, Int.reduceLE, List.isEmpty_cons, Int.reduceToNat, UInt8.reduceOfNat, Int.reduceBEq, Int.reduceNe, instBEqOfDecidableEq]) | (refine gdK_cases ?_ ?_ <;> intro hc <;> simp only [hc, hw, go_sem, Nat.reduceBEq, Nat.reduceLeDiff, Nat.reduceAdd, Nat.reduceSub, Nat.reduceMul, Nat.reduceEqDiff, Nat.reduceLT, ↓reduceIte, eq_self, reduceCtorEq, List.getD_nil, Bool.true_or, Bool.or_true, Bool.and_false, Bool.false_and, Int.reduceLT, Int.reduceLE, List.isEmpty_cons, Int.reduceToNat, UInt8.reduceOfNat, Int.reduceBEq, Int.reduceNe, instBEqOfDecidableEq]) | (refine thK_pick_cases ?_ ?_ <;> intro hc <;> simp only [hc, hw, go_sem, Nat.reduceBEq, Nat.reduceLeDiff, Nat.reduceAdd, Nat.reduceSub, Nat.reduceMul, Nat.reduceEqDiff, Nat.reduceLT, ↓reduceIte, eq_self, reduceCtorEq, List.getD_nil, Bool.true_or, Bool.or_true, Bool.and_false, Bool.false_and, Int.reduceLT, Int.reduceLE, List.isEmpty_cons, Int.reduceToNat, UInt8.reduceOfNat, Int.reduceBEq, Int.reduceNe, instBEqOfDecidableEq]))
  all_goals (simp_all <;> (try (rw [if_neg (by omega)]; exact ⟨rfl, rfl⟩)))
theorem ev_ValidRune (r : Int) : ev' f_unicode_utf8_ValidRune [.im (.i .i32 r)] [] = some (.ret [.im (.b (Lib.validRune r))] []) := ev_lib rfl rfl
theorem ev_AppendRune (r : Int) : ev' f_unicode_utf8_AppendRune [.im (.by_ true []), .im (.i .i32 r)] [] = some (.ret [.im (.by_ false (Lib.encodeRune r))] []) := ev_lib rfl rfl
def encOk (r : Int) : Bool := decide (0 ≤ r) && decide (r ≤ 1114111) && Lib.validRune r
def encB (r : Int) : List UInt8 := if encOk r then Lib.encodeRune r else []
theorem ev_Encode (r : Int) : ev' f_chars_Encode [.im (.i .i64 r)] [] = some (.ret [.im (.by_ (!(encOk r)) (encB r))] []) := by
  rw [g_chars_Encode rfl]
  unfold encB encOk
  by_cases h1 : r < 0
  · have a1 : decide (r < 0) = true := by simpa using h1
    have a2 : decide (0 ≤ r) = false := by simp; omega
    simp only [c_chars_Encode, a1, a2, ev_ValidRune, ev_AppendRune, go_sem, Nat.reduceBEq, Nat.reduceLeDiff, Nat.reduceAdd, Nat.reduceSub, Nat.reduceMul, Nat.reduceEqDiff, Nat.reduceLT, ↓reduceIte, eq_self, reduceCtorEq, List.getD_nil, Bool.true_or, Bool.or_true, Bool.and_false, Bool.false_and, Int.reduceLT, Int.reduceLE, List.isEmpty_cons, Int.reduceToNat, UInt8.reduceOfNat, Int.reduceBEq, Int.reduceNe, instBEqOfDecidableEq]
    try rfl
  · have a1 : decide (r < 0) = false := by simpa using h1
    have a2 : decide (0 ≤ r) = true := by simp; omega
    by_cases h2 : 1114111 < r
    · have b1 : decide (1114111 < r) = true := by simpa using h2
      have b2 : decide (r ≤ 1114111) = false := by simp; omega
      simp only [c_chars_Encode, a1, a2, b1, b2, ev_ValidRune, ev_AppendRune, go_sem, Nat.reduceBEq, Nat.reduceLeDiff, Nat.reduceAdd, Nat.reduceSub, Nat.reduceMul, Nat.reduceEqDiff, Nat.reduceLT, ↓reduceIte, eq_self, reduceCtorEq, List.getD_nil, Bool.true_or, Bool.or_true, Bool.and_false, Bool.false_and, Int.reduceLT, Int.reduceLE, List.isEmpty_cons, Int.reduceToNat, UInt8.reduceOfNat, Int.reduceBEq, Int.reduceNe, instBEqOfDecidableEq]
      try rfl
    · have b1 : decide (1114111 < r) = false := by simpa using h2
      have b2 : decide (r ≤ 1114111) = true := by simp; omega
      have hw : IntKind.wrap .i32 r = r := by
        simp [IntKind.wrap, IntKind.bits, IntKind.signed]
        split <;> omega
      simp only [c_chars_Encode, a1, a2, b1, b2, hw, ev_ValidRune, ev_AppendRune, go_sem, Nat.reduceBEq, Nat.reduceLeDiff, Nat.reduceAdd, Nat.reduceSub, Nat.reduceMul, Nat.reduceEqDiff, Nat.reduceLT, ↓reduceIte, eq_self, reduceCtorEq, List.getD_nil, Bool.true_or, Bool.or_true, Bool.and_false, Bool.false_and, Int.reduceLT, Int.reduceLE, List.isEmpty_cons, Int.reduceToNat, UInt8.reduceOfNat, Int.reduceBEq, Int.reduceNe, instBEqOfDecidableEq]
      cases hv : Lib.validRune r <;> simp only [hv, hw, ev_AppendRune, go_sem, Nat.reduceBEq, Nat.reduceLeDiff, Nat.reduceAdd, Nat.reduceSub, Nat.reduceMul, Nat.reduceEqDiff, Nat.reduceLT, ↓reduceIte, eq_self, reduceCtorEq, List.getD_nil, Bool.true_or, Bool.or_true, Bool.and_false, Bool.false_and, Int.reduceLT, Int.reduceLE, List.isEmpty_cons, Int.reduceToNat, UInt8.reduceOfNat, Int.reduceBEq, Int.reduceNe, instBEqOfDecidableEq] <;> rfl
/-- Where the first byte stands that is no character of XML; from a place on. -/
def wrongF : Nat → List UInt8 → Int → Int
  | 0, _, _ => -1
  | f + 1, l, n => if l.length ≤ n.toNat then -1 else if (decC (l.drop n.toNat)).2 = 0 ∨ ofXmlB (decC (l.drop n.toNat)).1 = false then n else wrongF f l (n + (decC (l.drop n.toNat)).2)
theorem decC_pos (l : List UInt8) : 0 ≤ (decC l).2 ∧ (decC l).2 ≤ l.length := by
  have := decG_len l
  unfold decC
  split <;> simp <;> omega
theorem lp_Wrong (z : Bool) (l : List UInt8) (hl : l.length ≤ 1048576) : ∀ (f n : Nat), n ≤ l.length → l.length < n + f →
    ∃ s, nx_chars_Wrong_0 ⟨[(0, .im (.by_ z l)), (3, .im (.i .i64 n))], []⟩ = some s ∧ s.2.obs = [] ∧ ((s.1 = .ex 0 ∧ wrongF f l n = -1) ∨ (s.1 = .rt ∧ get s.2.env 2 = .im (.i .i64 (wrongF f l n)))) := by
  intro f
  induction f with
  | zero => intro n h1 h2; omega
  | succ f ih =>
    intro n h1 h2
    rw [nx_chars_Wrong_0]
    by_cases hn : n = l.length
    · have a1 : decide ((n : Int) < (l.length : Int)) = false := by simp; omega
      simp only [b_chars_Wrong_0, a1, go_sem, Nat.reduceBEq, Nat.reduceLeDiff, Nat.reduceAdd, Nat.reduceSub, Nat.reduceMul, Nat.reduceEqDiff, Nat.reduceLT, ↓reduceIte, eq_self, reduceCtorEq, List.getD_nil, Bool.true_or, Bool.or_true, Bool.and_false, Bool.false_and, Int.reduceLT, Int.reduceLE, List.isEmpty_cons, Int.reduceToNat, UInt8.reduceOfNat, Int.reduceBEq, Int.reduceNe, instBEqOfDecidableEq]
      exact ⟨_, rfl, rfl, .inl ⟨rfl, by simp [wrongF, hn]⟩⟩
    · have a1 : decide ((n : Int) < (l.length : Int)) = true := by simp; omega
      have a2 : decide ((n : Int) ≤ (l.length : Int)) = true := by simp; omega
      have a3 : decide ((0 : Int) ≤ (n : Int)) = true := by simp
      have hd := decC_pos (l.drop n)
      rw [List.length_drop] at hd
      have hw : IntKind.wrap .i64 ((n : Int) + (decC (l.drop n)).2) = ((n + (decC (l.drop n)).2.toNat : Nat) : Int) := by rw [wrap_i64 (by omega) (by omega)]; omega
      by_cases hk : (decC (l.drop n)).2 = 0
      · have b1 : ((decC (l.drop n)).2 == 0) = true := by simpa using hk
        simp only [b_chars_Wrong_0, a1, a2, a3, b1, ev_Decode, go_sem, Nat.reduceBEq, Nat.reduceLeDiff, Nat.reduceAdd, Nat.reduceSub, Nat.reduceMul, Nat.reduceEqDiff, Nat.reduceLT, ↓reduceIte, eq_self, reduceCtorEq, List.getD_nil, Bool.true_or, Bool.or_true, Bool.and_false, Bool.false_and, Int.reduceLT, Int.reduceLE, List.isEmpty_cons, Int.reduceToNat, UInt8.reduceOfNat, Int.reduceBEq, Int.reduceNe, instBEqOfDecidableEq]
        refine ⟨_, rfl, rfl, .inr ⟨rfl, ?_⟩⟩
        simp only [go_sem, Nat.reduceBEq, Nat.reduceLeDiff, Nat.reduceAdd, Nat.reduceSub, Nat.reduceMul, Nat.reduceEqDiff, Nat.reduceLT, ↓reduceIte, eq_self, reduceCtorEq, List.getD_nil, Bool.true_or, Bool.or_true, Bool.and_false, Bool.false_and, Int.reduceLT, Int.reduceLE, List.isEmpty_cons, Int.reduceToNat, UInt8.reduceOfNat, Int.reduceBEq, Int.reduceNe, instBEqOfDecidableEq, wrongF, Int.toNat_natCast, hk, true_or]
        rw [if_neg (by omega)]
      · have b1 : ((decC (l.drop n)).2 == 0) = false := by simpa using hk
        cases ho : ofXmlB (decC (l.drop n)).1 with
        | false =>
          simp only [b_chars_Wrong_0, a1, a2, a3, b1, ho, ev_Decode, ev_ofXML, go_sem, Nat.reduceBEq, Nat.reduceLeDiff, Nat.reduceAdd, Nat.reduceSub, Nat.reduceMul, Nat.reduceEqDiff, Nat.reduceLT, ↓reduceIte, eq_self, reduceCtorEq, List.getD_nil, Bool.true_or, Bool.or_true, Bool.and_false, Bool.false_and, Int.reduceLT, Int.reduceLE, List.isEmpty_cons, Int.reduceToNat, UInt8.reduceOfNat, Int.reduceBEq, Int.reduceNe, instBEqOfDecidableEq]
          refine ⟨_, rfl, rfl, .inr ⟨rfl, ?_⟩⟩
          simp only [go_sem, Nat.reduceBEq, Nat.reduceLeDiff, Nat.reduceAdd, Nat.reduceSub, Nat.reduceMul, Nat.reduceEqDiff, Nat.reduceLT, ↓reduceIte, eq_self, reduceCtorEq, List.getD_nil, Bool.true_or, Bool.or_true, Bool.and_false, Bool.false_and, Int.reduceLT, Int.reduceLE, List.isEmpty_cons, Int.reduceToNat, UInt8.reduceOfNat, Int.reduceBEq, Int.reduceNe, instBEqOfDecidableEq, wrongF, Int.toNat_natCast, ho, or_true]
          rw [if_neg (by omega)]
        | true =>
          simp only [b_chars_Wrong_0, a1, a2, a3, b1, ho, hw, ev_Decode, ev_ofXML, lg_chars_Wrong_0, norm, go_sem, Nat.reduceBEq, Nat.reduceLeDiff, Nat.reduceAdd, Nat.reduceSub, Nat.reduceMul, Nat.reduceEqDiff, Nat.reduceLT, ↓reduceIte, eq_self, reduceCtorEq, List.getD_nil, Bool.true_or, Bool.or_true, Bool.and_false, Bool.false_and, Int.reduceLT, Int.reduceLE, List.isEmpty_cons, Int.reduceToNat, UInt8.reduceOfNat, Int.reduceBEq, Int.reduceNe, instBEqOfDecidableEq]
          obtain ⟨s, e1, e2, e3⟩ := ih (n + (decC (l.drop n)).2.toNat) (by omega) (by omega)
          refine ⟨s, e1, e2, ?_⟩
          have : wrongF (f + 1) l n = wrongF f l ((n + (decC (l.drop n)).2.toNat : Nat) : Int) := by
            rw [wrongF, if_neg (by simp; omega), if_neg (by simp [hk, ho])]
            congr 1
            simp
            omega
          rw [this]
          exact e3
def wrongB (l : List UInt8) : Int := wrongF (l.length + 1) l 0
theorem ev_Wrong (z : Bool) (l : List UInt8) (hl : l.length ≤ 1048576) : ev' f_chars_Wrong [.im (.by_ z l)] [] = some (.ret [.im (.i .i64 (wrongB l))] []) := by
  rw [g_chars_Wrong rfl]
  obtain ⟨⟨o, e, obs⟩, h1, h2, h3⟩ := lp_Wrong z l hl (l.length + 1) 0 (by omega) (by omega)
  rw [Int.natCast_zero] at h1 h3
  simp only at h2
  subst h2
  simp only [c_chars_Wrong, lg_chars_Wrong_0, norm, h1, go_sem, Nat.reduceBEq, Nat.reduceLeDiff, Nat.reduceAdd, Nat.reduceSub, Nat.reduceMul, Nat.reduceEqDiff, Nat.reduceLT, ↓reduceIte, eq_self, reduceCtorEq, List.getD_nil, Bool.true_or, Bool.or_true, Bool.and_false, Bool.false_and, Int.reduceLT, Int.reduceLE, List.isEmpty_cons, Int.reduceToNat, UInt8.reduceOfNat, Int.reduceBEq, Int.reduceNe, instBEqOfDecidableEq]
  rcases h3 with ⟨rfl, h⟩ | ⟨rfl, h⟩
  · simp only [go_sem, Nat.reduceBEq, Nat.reduceLeDiff, Nat.reduceAdd, Nat.reduceSub, Nat.reduceMul, Nat.reduceEqDiff, Nat.reduceLT, ↓reduceIte, eq_self, reduceCtorEq, List.getD_nil, Bool.true_or, Bool.or_true, Bool.and_false, Bool.false_and, Int.reduceLT, Int.reduceLE, List.isEmpty_cons, Int.reduceToNat, UInt8.reduceOfNat, Int.reduceBEq, Int.reduceNe, instBEqOfDecidableEq]
    unfold wrongB
    rw [h]
  · simp only at h
    simp only [h, go_sem, Nat.reduceBEq, Nat.reduceLeDiff, Nat.reduceAdd, Nat.reduceSub, Nat.reduceMul, Nat.reduceEqDiff, Nat.reduceLT, ↓reduceIte, eq_self, reduceCtorEq, List.getD_nil, Bool.true_or, Bool.or_true, Bool.and_false, Bool.false_and, Int.reduceLT, Int.reduceLE, List.isEmpty_cons, Int.reduceToNat, UInt8.reduceOfNat, Int.reduceBEq, Int.reduceNe, instBEqOfDecidableEq]
    rfl
end Go.Proofs.Av
