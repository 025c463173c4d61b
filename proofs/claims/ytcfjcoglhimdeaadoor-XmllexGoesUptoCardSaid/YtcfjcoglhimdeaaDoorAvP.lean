/- SINGLE OPERATIONS THAT CHANGE NO MEMORY: what the evaluator says is what the machine does. -/
import Derived.Test.YtcfjcoglhimdeaaDoorAvE
import Derived.Tactics
import Derived.Laws.Slices
import Derived.Laws.Strings
import Derived.Laws.BytesString
import Derived.Laws.IdiomStrings
import Derived.Laws.StructEq
import Derived.Laws.Cells
import Derived.Laws.Tables
import Derived.Laws.Cover1
set_option linter.unusedSimpArgs false
set_option linter.unusedVariables false
section
namespace Go.Proofs.Av
open Go.RowKit
section
variable {C : Ctx} {w : World} {g : Nat → Value} {s s' : S} {a : Act} {o : Oper} {d : Option Nat} {out : Out} {call : FuncId → List V → Obs → Option Res}

/-- The operation hands a value back, and the world is as it was. -/
def Pu (C : Ctx) (w : World) (g : Nat → Value) (s : S) (a : Act) (o : Oper) (d : Option Nat) (out : Out) (s' : S) : Prop :=
  out = .nx ∧ ∃ u v, (execOp a.eval o).run C.P w = .ok (.value u) w ∧ s' = s.put d v ∧ RV C.P w (C.Al s.obs g) g v u

theorem go_eq {s1 s2 : S} {q : Out} (h : go s1 = some (q, s2)) : q = .nx ∧ s2 = s1 := by
  simp only [go, Option.some.injEq, Prod.mk.injEq] at h
  exact ⟨h.1.symm, h.2.symm⟩

theorem mv_ok (h : Inv C w g s a) {x : Operand} {y : Opd} (hop : o.op = .move x ∨ o.op = .assign x) (hx : okOpd C.P x y = true) (hs : stepO call s d (.mv y) = some (out, s')) : Pu C w g s a o d out s' := by
  obtain ⟨rfl, rfl⟩ := go_eq hs
  refine ⟨rfl, a.eval x, _, ?_, rfl, ev_ok h hx⟩
  rcases hop with hop | hop <;> simp [execOp, hop]

theorem pick_ok (h : Inv C w g s a) {c x y : Operand} {c' x' y' : Opd} (hop : o.op = .pick c x y) (hc : okOpd C.P c c' = true) (hx : okOpd C.P x x' = true) (hy : okOpd C.P y y' = true)
    (hs : stepO call s d (.pick c' x' y') = some (out, s')) : Pu C w g s a o d out s' := by
  simp only [stepO] at hs
  split at hs
  · rename_i b hb
    have hc' := ev_ok h hc
    rw [hb] at hc'
    have e := RV_b hc'
    cases b with
    | true =>
      obtain ⟨rfl, rfl⟩ := go_eq hs
      exact ⟨rfl, a.eval x, _, by simp [execOp, hop, e, asBool], rfl, ev_ok h hx⟩
    | false =>
      obtain ⟨rfl, rfl⟩ := go_eq hs
      exact ⟨rfl, a.eval y, _, by simp [execOp, hop, e, asBool], rfl, ev_ok h hy⟩
  · cases hs

theorem bits_eq (op : BinOp) (k : IntKind) (m n r : Int) (ho : intOp op k m n = some r) (w : World) (P : Program) (ha : isArith op = true) : (binOp op 0 (.int k m) (.int k n)).run P w = .ok (.int k r) w ∧ (k.min ≤ m → m ≤ k.max → k.min ≤ n → n ≤ k.max → k.min ≤ r ∧ r ≤ k.max) := by
  cases op <;> simp only [isArith, Bool.false_eq_true] at ha <;> simp only [intOp, Option.some.injEq] at ho
  · subst ho; exact ⟨by simp [binOp, Op.intArith], fun _ _ _ _ => wrap_in _ _⟩
  · subst ho; exact ⟨by simp [binOp, Op.intArith], fun _ _ _ _ => wrap_in _ _⟩
  · subst ho; exact ⟨by simp [binOp, Op.intArith], fun _ _ _ _ => wrap_in _ _⟩
  · by_cases hn : n = 0
    · subst hn; simp [ifB] at ho
    · rw [show (n == 0) = false by simpa using hn] at ho
      simp only [ifB, Option.some.injEq] at ho
      subst ho
      exact ⟨by simp [binOp, Op.intDiv, hn], fun _ _ _ _ => wrap_in _ _⟩
  · by_cases hn : n = 0
    · subst hn; simp [ifB] at ho
    · rw [show (n == 0) = false by simpa using hn] at ho
      simp only [ifB, Option.some.injEq] at ho
      subst ho
      refine ⟨by simp [binOp, Op.intDiv, hn], fun h1 h2 _ _ => ?_⟩
      have hb : (m.tmod n).natAbs ≤ m.natAbs := by rw [Int.natAbs_tmod]; exact Nat.mod_le _ _
      have hs : 0 ≤ m → 0 ≤ m.tmod n := fun h => Int.tmod_nonneg _ h
      have hk : k.min ≤ 0 ∧ 0 ≤ k.max := by cases k <;> simp [IntKind.min, IntKind.max, IntKind.signed, IntKind.bits]
      have hm : m ≤ 0 → m.tmod n ≤ 0 := fun h => by
        have e : (-m).tmod n = -(m.tmod n) := Int.neg_tmod ..
        have h2 := Int.tmod_nonneg n (a := -m) (by omega)
        omega
      rcases Int.le_total 0 m with h0 | h0
      · have := hs h0; omega
      · have := hm h0; omega
  · subst ho; exact ⟨by simp [binOp, Op.intBits, bitAnd, bitOr, bitXor, bitAndNot], fun _ _ _ _ => wrap_in _ _⟩
  · subst ho; exact ⟨by simp [binOp, Op.intBits, bitAnd, bitOr, bitXor, bitAndNot], fun _ _ _ _ => wrap_in _ _⟩
  · subst ho; exact ⟨by simp [binOp, Op.intBits, bitAnd, bitOr, bitXor, bitAndNot], fun _ _ _ _ => wrap_in _ _⟩
  · subst ho; exact ⟨by simp [binOp, Op.intBits, bitAnd, bitOr, bitXor, bitAndNot], fun _ _ _ _ => wrap_in _ _⟩
theorem binOp_ty (op : BinOp) (t u : TypeId) (k k' : IntKind) (m n : Int) : binOp op t (.int k m) (.int k' n) = binOp op u (.int k m) (.int k' n) := by cases op <;> rfl
theorem guard_int (op : BinOp) (t : TypeId) (x y : Operand) (k k' : IntKind) (m n : Int) (w : World) (P : Program) : (eqGuard op t x y (.int k m) (.int k' n)).run P w = .ok () w := by
  cases op <;> simp [eqGuard]

theorem ar_ok (h : Inv C w g s a) {op : BinOp} {t : TypeId} {k : IntKind} {x y : Operand} {x' y' : Opd} {ty : TypeId} (hop : o.op = .binOp op t x y ty) (ha : isArith op = true)
    (hx : okOpd C.P x x' = true) (hy : okOpd C.P y y' = true) (hs : stepO call s d (.ar op k x' y') = some (out, s')) : Pu C w g s a o d out s' := by
  simp only [stepO] at hs
  split at hs
  · rename_i kx m ky n hm hn
    by_cases hk : (kx == k && ky == k) = true
    · rw [hk, cond_true] at hs
      simp only [Bool.and_eq_true, beq_iff_eq] at hk
      obtain ⟨rfl, rfl⟩ := hk
      cases hr : intOp op ky m n with
      | none => rw [hr] at hs; cases hs
      | some r =>
        rw [hr] at hs
        obtain ⟨rfl, rfl⟩ := go_eq hs
        have ex := ev_ok h hx
        have ey := ev_ok h hy
        rw [hm] at ex
        rw [hn] at ey
        obtain ⟨ex, x1, x2⟩ := RV_i ex
        obtain ⟨ey, y1, y2⟩ := RV_i ey
        obtain ⟨e, hb⟩ := bits_eq op ky m n r hr w C.P ha
        refine ⟨rfl, _, _, ?_, rfl, mk_i (hb x1 x2 y1 y2).1 (hb x1 x2 y1 y2).2⟩
        simp [execOp, hop, ex, ey, guard_int, binOp_ty op t 0, e]
    · rw [Bool.not_eq_true] at hk
      rw [hk] at hs
      cases hs
  · cases hs

theorem cm_eq (op : BinOp) (k : IntKind) (m n : Int) (r : Bool) (ho : cmpOp op m n = some r) (w : World) (P : Program) : (binOp op 0 (.int k m) (.int k n)).run P w = .ok (.bool r) w := by
  cases op <;> simp [cmpOp] at ho <;> subst ho <;> simp [binOp, Op.intCmp, GT.gt, GE.ge]
theorem cm_ok (h : Inv C w g s a) {op : BinOp} {t : TypeId} {x y : Operand} {x' y' : Opd} {ty : TypeId} (hop : o.op = .binOp op t x y ty)
    (hx : okOpd C.P x x' = true) (hy : okOpd C.P y y' = true) (hs : stepO call s d (.cm op x' y') = some (out, s')) : Pu C w g s a o d out s' := by
  simp only [stepO] at hs
  split at hs
  · rename_i kx m ky n hm hn
    by_cases hk : (kx == ky) = true
    · rw [hk, cond_true] at hs
      simp only [beq_iff_eq] at hk
      subst hk
      cases hr : cmpOp op m n with
      | none => rw [hr] at hs; cases hs
      | some r =>
        rw [hr] at hs
        obtain ⟨rfl, rfl⟩ := go_eq hs
        have ex := ev_ok h hx
        have ey := ev_ok h hy
        rw [hm] at ex
        rw [hn] at ey
        obtain ⟨ex, _⟩ := RV_i ex
        obtain ⟨ey, _⟩ := RV_i ey
        refine ⟨rfl, _, _, ?_, rfl, mk_b r⟩
        simp [execOp, hop, ex, ey, guard_int, binOp_ty op t 0, cm_eq op kx m n r hr]
    · rw [Bool.not_eq_true] at hk
      rw [hk] at hs
      cases hs
  · cases hs

theorem fdiv_in (k : IntKind) (x : Int) (n : Nat) (h1 : k.min ≤ x) (h2 : x ≤ k.max) : k.min ≤ x.fdiv (2 ^ n) ∧ x.fdiv (2 ^ n) ≤ k.max := by
  have hp : (0 : Int) < 2 ^ n := Int.pow_pos (by omega)
  rw [Int.fdiv_eq_ediv_of_nonneg _ (Int.le_of_lt hp)]
  have hk : k.min ≤ 0 ∧ 0 ≤ k.max := by cases k <;> simp [IntKind.min, IntKind.max, IntKind.signed, IntKind.bits]
  have h3 : 0 ≤ x → x / 2 ^ n ≤ x := fun h => Int.ediv_le_self _ h
  have h4 : 0 ≤ x → 0 ≤ x / 2 ^ n := fun h => Int.ediv_nonneg h (Int.le_of_lt hp)
  have h5 : x < 0 → x ≤ x / 2 ^ n := fun h => by
    rw [Int.le_ediv_iff_mul_le hp]
    have h1 : (1 : Int) ≤ 2 ^ n := by omega
    have := Int.mul_le_mul_of_nonpos_left (Int.le_of_lt h) h1
    omega
  have h6 : x < 0 → x / 2 ^ n ≤ 0 := fun h => by
    have := Int.ediv_lt_of_lt_mul hp (a := x) (b := 1) (by omega)
    omega
  rcases Int.lt_or_le x 0 with h | h
  · have := h5 h; have := h6 h; omega
  · have := h3 h; have := h4 h; omega
theorem sh_ok (h : Inv C w g s a) {op : BinOp} {t : TypeId} {k : IntKind} {x y : Operand} {x' y' : Opd} {ty : TypeId} (hop : o.op = .binOp op t x y ty)
    (hx : okOpd C.P x x' = true) (hy : okOpd C.P y y' = true) (hs : stepO call s d (.sh op k x' y') = some (out, s')) : Pu C w g s a o d out s' := by
  simp only [stepO] at hs
  split at hs
  · rename_i kx m ky n hm hn
    by_cases hk : (kx == k) = true
    · rw [hk, cond_true] at hs
      simp only [beq_iff_eq] at hk
      subst hk
      cases hr : shOp op kx m n with
      | none => rw [hr] at hs; cases hs
      | some r =>
        rw [hr] at hs
        obtain ⟨rfl, rfl⟩ := go_eq hs
        have ex := ev_ok h hx
        have ey := ev_ok h hy
        rw [hm] at ex
        rw [hn] at ey
        obtain ⟨ex, x1, x2⟩ := RV_i ex
        obtain ⟨ey, _⟩ := RV_i ey
        unfold shOp at hr
        split at hr
        · by_cases h0 : n < 0
          · simp [ifB, h0] at hr
          · rw [show decide (n < 0) = false by simpa using h0] at hr
            simp only [ifB, Option.some.injEq] at hr
            subst hr
            refine ⟨rfl, _, _, ?_, rfl, mk_i (wrap_in _ _).1 (wrap_in _ _).2⟩
            simp [execOp, hop, ex, ey, guard_int, binOp, Op.shift, h0, shlI, shrI]
        · by_cases h0 : n < 0
          · simp [ifB, h0] at hr
          · rw [show decide (n < 0) = false by simpa using h0] at hr
            simp only [ifB, Option.some.injEq] at hr
            subst hr
            refine ⟨rfl, _, _, ?_, rfl, mk_i (fdiv_in _ _ _ x1 x2).1 (fdiv_in _ _ _ x1 x2).2⟩
            simp [execOp, hop, ex, ey, guard_int, binOp, Op.shift, h0, shlI, shrI]
        · cases hr
    · rw [Bool.not_eq_true] at hk
      rw [hk] at hs
      cases hs
  · cases hs
end
end Go.Proofs.Av
end
section
namespace Go.Proofs.Av
open Go.RowKit
section
variable {C : Ctx} {w : World} {g : Nat → Value} {s s' : S} {a : Act} {o : Oper} {d : Option Nat} {out : Out} {call : FuncId → List V → Obs → Option Res}

theorem bind_go {α : Type} {x : Option α} {k : α → S} {q : Out × S} (h : (x.bind fun r => go (k r)) = some q) : ∃ r, x = some r ∧ q = (.nx, k r) := by
  cases x with
  | none => cases h
  | some r =>
    refine ⟨r, rfl, ?_⟩
    simp only [Option.bind_some, go, Option.some.injEq] at h
    exact h.symm
theorem guard_str (op : BinOp) (t : TypeId) (x y : Operand) (p q : ByteArray) (w : World) (P : Program) : (eqGuard op t x y (.string p) (.string q)).run P w = .ok () w := by
  cases op <;> simp [eqGuard]
theorem st_ok (h : Inv C w g s a) {op : BinOp} {t : TypeId} {x y : Operand} {x' y' : Opd} {ty : TypeId} (hop : o.op = .binOp op t x y ty)
    (hx : okOpd C.P x x' = true) (hy : okOpd C.P y y' = true) (hs : stepO call s d (.st op x' y') = some (out, s')) : Pu C w g s a o d out s' := by
  simp only [stepO] at hs
  split at hs
  · rename_i l m hl hm
    obtain ⟨r, hr, hq⟩ := bind_go hs
    simp only [Prod.mk.injEq] at hq
    obtain ⟨rfl, rfl⟩ := hq
    have ex := ev_ok h hx
    have ey := ev_ok h hy
    rw [hl] at ex
    rw [hm] at ey
    obtain ⟨ex, x1⟩ := RV_s ex
    obtain ⟨ey, y1⟩ := RV_s ey
    refine ⟨rfl, ?_⟩
    cases op <;> simp only [strOp] at hr <;> (try cases hr)
    · by_cases hb : l.length + m.length ≤ 140737488355328
      · rw [show decide (l.length + m.length ≤ 140737488355328) = true by simpa using hb] at hr
        simp only [ifB, Option.some.injEq] at hr
        subst hr
        refine ⟨.string ⟨(l ++ m).toArray⟩, _, ?_, rfl, mk_s (by simp [maxLen]; omega)⟩
        have e : (⟨l.toArray⟩ : ByteArray) ++ ⟨m.toArray⟩ = ⟨(l ++ m).toArray⟩ := by
          apply ByteArray.ext
          rw [ByteArray.data_append]
          simp
        have hn : ¬ (((l.length + m.length : Nat) : Int) > IntKind.i64.max) := by simp [IntKind.max, IntKind.signed, IntKind.bits]; omega
        have sz : ∀ l : List UInt8, (⟨l.toArray⟩ : ByteArray).size = l.length := fun l => by simp [ByteArray.size]
        simp only [execOp, hop, ex, ey, Sem.run_bind, guard_str, Result.andThen, binOp, Op.stringOp, sz]
        rw [if_neg hn]
        simp [e]
      · rw [show decide (l.length + m.length ≤ 140737488355328) = false by simpa using hb] at hr
        simp [ifB] at hr
    all_goals
      refine ⟨_, _, ?_, rfl, mk_b _⟩
      simp [execOp, hop, ex, ey, guard_str, binOp, Op.stringOp, bne]
  · cases hs

theorem eqb_ok (h : Inv C w g s a) {op : BinOp} {t : TypeId} {eq : Bool} {x y : Operand} {x' y' : Opd} {ty : TypeId} (hop : o.op = .binOp op t x y ty) (he : isEq eq op = true) (ht : isBoolT C.P t = true)
    (hx : okOpd C.P x x' = true) (hy : okOpd C.P y y' = true) (hs : stepO call s d (.eqb eq x' y') = some (out, s')) : Pu C w g s a o d out s' := by
  simp only [stepO] at hs
  split at hs
  · rename_i p q hp hq
    obtain ⟨rfl, rfl⟩ := go_eq hs
    have ex := ev_ok h hx
    have ey := ev_ok h hy
    rw [hp] at ex
    rw [hq] at ey
    have ex := RV_b ex
    have ey := RV_b ey
    have ht' : C.P.underlying t = some .bool := by
      unfold isBoolT at ht
      split at ht
      · assumption
      · cases ht
    refine ⟨rfl, _, _, ?_, rfl, mk_b _⟩
    have e1 : (Op.equal t (.bool p) (.bool q)).run C.P w = .ok (p == q) w := run_equalIn_bool' (P := C.P) w 9999 t p q ht'
    have e2 : (eqGuard op t x y (.bool p) (.bool q)).run C.P w = .ok () w := by cases op <;> simp [eqGuard]
    have e3 : (binOp op t (.bool p) (.bool q)).run C.P w = .ok (.bool (bif eq then p == q else p != q)) w := by
      cases op <;> cases eq <;> simp only [isEq, Bool.not_true, Bool.not_false, Bool.false_eq_true] at he
      · simp only [binOp, Sem.run_bind, e1, Result.andThen, Sem.run_pure, cond_true]
      · simp only [binOp, Sem.run_bind, e1, Result.andThen, Sem.run_pure, cond_false, bne]
    simp only [execOp, hop, ex, ey, Sem.run_bind, e2, Result.andThen, e3, Sem.run_pure]
  · cases hs

theorem not_ok (h : Inv C w g s a) {t : TypeId} {x : Operand} {x' : Opd} (hop : o.op = .unOp .not t x) (hx : okOpd C.P x x' = true) (hs : stepO call s d (.not x') = some (out, s')) : Pu C w g s a o d out s' := by
  simp only [stepO] at hs
  split at hs
  · rename_i p hp
    obtain ⟨rfl, rfl⟩ := go_eq hs
    have ex := ev_ok h hx
    rw [hp] at ex
    have ex := RV_b ex
    exact ⟨rfl, _, _, by simp [execOp, hop, ex, Op.unary], rfl, mk_b _⟩
  · cases hs
theorem neg_ok (h : Inv C w g s a) {t : TypeId} {k : IntKind} {x : Operand} {x' : Opd} (hop : o.op = .unOp .neg t x) (hx : okOpd C.P x x' = true) (hs : stepO call s d (.neg k x') = some (out, s')) : Pu C w g s a o d out s' := by
  simp only [stepO] at hs
  split at hs
  · rename_i kx n hp
    by_cases hk : (kx == k) = true
    · rw [hk, cond_true] at hs
      simp only [beq_iff_eq] at hk
      subst hk
      obtain ⟨rfl, rfl⟩ := go_eq hs
      have ex := ev_ok h hx
      rw [hp] at ex
      obtain ⟨ex, _⟩ := RV_i ex
      exact ⟨rfl, _, _, by simp [execOp, hop, ex, Op.unary, Op.intArith], rfl, mk_i (by simpa using (wrap_in kx (0 - n)).1) (by simpa using (wrap_in kx (0 - n)).2)⟩
    · rw [Bool.not_eq_true] at hk
      rw [hk] at hs
      cases hs
  · cases hs
theorem isInt_eq {P : Program} {t : TypeId} {k : IntKind} (h : isInt P t k = true) : P.underlying t = some (.int k) := by
  unfold isInt at h
  split at h
  · rename_i k' hk
    rw [hk]
    simp only [beq_iff_eq] at h
    rw [h]
  · cases h
theorem isStr_eq {P : Program} {t : TypeId} (h : isStr P t = true) : P.underlying t = some .string := by
  unfold isStr at h
  split at h
  · assumption
  · cases h
theorem elem_eq {P : Program} {t e : TypeId} (h : elemT? P t = some e) : P.underlying t = some (.slice e) := by
  unfold elemT? at h
  split at h
  · rename_i e' he
    simp only [Option.some.injEq] at h
    rw [he, h]
  · cases h
theorem bySl_eq {P : Program} {t : TypeId} (h : isBySl P t = true) : ∃ e i, P.underlying t = some (.slice e) ∧ P.underlying e = some (.int .u8) ∧ P.info? e = some i ∧ i.size = 1 := by
  unfold isBySl at h
  split at h
  · rename_i e he
    simp only [Bool.and_eq_true, beq_iff_eq, Option.map_eq_some_iff] at h
    obtain ⟨h1, i, hi, hs⟩ := h
    exact ⟨e, i, elem_eq he, isInt_eq h1, hi, hs⟩
  · cases h
theorem info_of {P : Program} {t : TypeId} {d : TypeDesc} (h : P.underlying t = some d) : ∃ i, P.info? t = some i := by
  unfold Program.underlying at h
  cases hi : P.info? t with
  | none => simp [hi] at h
  | some i => exact ⟨i, rfl⟩
theorem cv_ok (h : Inv C w g s a) {t u : TypeId} {k : IntKind} {x : Operand} {x' : Opd} (hop : o.op = .convert u t x) (hu : (C.P.underlying u).isSome = true) (ht : isInt C.P t k = true) (hx : okOpd C.P x x' = true) (hs : stepO call s d (.cv k x') = some (out, s')) : Pu C w g s a o d out s' := by
  simp only [stepO] at hs
  split at hs
  · rename_i kx n hp
    obtain ⟨rfl, rfl⟩ := go_eq hs
    have ex := ev_ok h hx
    rw [hp] at ex
    obtain ⟨ex, _⟩ := RV_i ex
    obtain ⟨du, hdu⟩ := Option.isSome_iff_exists.1 hu
    exact ⟨rfl, _, _, by simp [execOp, hop, ex, convert, run_underlying (isInt_eq ht), run_underlying hdu, Conv.intToInt], rfl, mk_i (wrap_in _ _).1 (wrap_in _ _).2⟩
  · cases hs
theorem cvs_ok (h : Inv C w g s a) {t u : TypeId} {x : Operand} {x' : Opd} (hop : o.op = .convert u t x) (hu : isStr C.P u = true) (ht : isStr C.P t = true) (hx : okOpd C.P x x' = true) (hs : stepO call s d (.cvs x') = some (out, s')) : Pu C w g s a o d out s' := by
  simp only [stepO] at hs
  split at hs
  · rename_i l hl
    obtain ⟨rfl, rfl⟩ := go_eq hs
    have ex := ev_ok h hx
    rw [hl] at ex
    obtain ⟨ex', e1⟩ := RV_s ex
    exact ⟨rfl, _, _, by simp [execOp, hop, ex', convert, run_underlying (isStr_eq hu), run_underlying (isStr_eq ht)], rfl, mk_s e1⟩
  · cases hs

theorem tlen_im {P : Program} {w : World} {A : Nat → Prop} {g : Nat → Value} {t : T} {u : Value} {n : Nat} (h : RV P w A g (.im t) u) (hn : tlen t = some n) :
    n ≤ maxLen ∧ (if isS t then ∃ sx, u = .string sx ∧ sx.size = n else ∃ b c, u = .slice b n c) := by
  cases t <;> simp only [tlen, Option.some.injEq, reduceCtorEq] at hn
  · obtain ⟨e1, e2⟩ := RV_s h
    subst hn
    exact ⟨e2, by simp only [isS, if_true]; exact ⟨_, e1, by simp [ByteArray.size]⟩⟩
  · obtain ⟨b, c, e1, e2, e3, _⟩ := RV_by h
    subst hn
    exact ⟨by omega, by simp only [isS, Bool.false_eq_true, if_false]; exact ⟨b, c, e1⟩⟩
  · obtain ⟨b, c, cs, e1, e2, e3, _⟩ := RV_sl h
    subst hn
    exact ⟨by omega, by simp only [isS, Bool.false_eq_true, if_false]; exact ⟨b, c, e1⟩⟩
theorem RO_len {P : Program} {w : World} {A : Nat → Prop} {g : Nat → Value} {q : Nat} {e : TypeId} {t : T} {n : Nat} (h : RO P w A g q (.row e t)) (hn : tlen t = some n) : n ≤ maxLen ∧ ∃ b c, g q = .slice b n c ∧ n ≤ c ∧ c ≤ maxLen := by
  obtain ⟨m, us, sz, h1, h2, h3, h4, _⟩ := h
  rw [hn] at h4
  simp only [Option.some.injEq] at h4
  subst h4
  rcases h1.2 with ⟨e3, e4⟩ | ⟨gg, cap, cur, e3, _, _, e5, e6, _⟩
  · subst e4
    exact ⟨by simp, none, 0, e3, by simp, by simp⟩
  · exact ⟨by omega, _, cap, e3, e5, e6⟩
theorem len_ok (h : Inv C w g s a) {x : Operand} {x' : Opd} {t : TypeId} {str : Bool} (hop : o.op = .call { callee := .builtin .len, args := #[x], argTypes := #[t] }) (ht : (bif str then isStr C.P t else (elemT? C.P t).isSome) = true) (hx : okOpd C.P x x' = true)
    (hs : stepO call s d (.len str x') = some (out, s')) : Pu C w g s a o d out s' := by
  simp only [stepO] at hs
  split at hs
  · rename_i n hn
    obtain ⟨rfl, rfl⟩ := go_eq hs
    have ex := ev_ok h hx
    have hi : n ≤ maxLen ∧ (if str then ∃ sx, a.eval x = .string sx ∧ sx.size = n else ∃ b c, a.eval x = .slice b n c) := by
      unfold sliceLen at hn
      split at hn
      · rename_i tt hv
        rw [hv] at ex
        by_cases hq : (isS tt == str) = true
        · rw [hq, cond_true] at hn
          have := tlen_im ex hn
          rwa [beq_iff_eq.1 hq] at this
        · rw [Bool.not_eq_true] at hq
          rw [hq] at hn
          cases hn
      · rename_i q hv
        rw [hv] at ex
        split at hn
        · rename_i e t' hq
          by_cases hb : str = true
          · subst hb; cases hn
          · rw [Bool.not_eq_true] at hb
            subst hb
            obtain ⟨h1, b, c, h2, _⟩ := RO_len (h.obs _ _ hq) hn
            exact ⟨h1, by simp only [Bool.false_eq_true, if_false]; exact ⟨b, c, ex.1.trans h2⟩⟩
        · cases hn
      · cases hn
    refine ⟨rfl, .int .i64 n, _, ?_, rfl, mk_i (by simp [IntKind.min, IntKind.signed, IntKind.bits] <;> omega) (by have := hi.1; simp [IntKind.max, IntKind.signed, IntKind.bits]; unfold maxLen at this; omega)⟩
    cases str with
    | true =>
      simp only [if_true] at hi
      obtain ⟨_, sx, e1, e2⟩ := hi
      rw [cond_true] at ht
      simp [execOp, hop, e1, resolve, invoke, builtin, Builtin.len_, run_underlying (isStr_eq ht), goInt, e2]
    | false =>
      simp only [Bool.false_eq_true, if_false] at hi
      obtain ⟨_, b, c, e1⟩ := hi
      rw [cond_false] at ht
      obtain ⟨e, he⟩ := Option.isSome_iff_exists.1 ht
      simp [execOp, hop, e1, resolve, invoke, builtin, Builtin.len_, run_underlying (elem_eq he), goInt]
  · cases hs
end
end Go.Proofs.Av
end
section
namespace Go.Proofs.Av
open Go.RowKit
theorem byte_in (x : UInt8) : IntKind.u8.min ≤ (x.toNat : Int) ∧ (x.toNat : Int) ≤ IntKind.u8.max := by
  have := x.toNat_lt
  simp [IntKind.min, IntKind.max, IntKind.signed, IntKind.bits]
  omega
section
variable {P : Program} {w : World} {A : Nat → Prop} {g : Nat → Value}
theorem kindE_size {e : TypeId} {agg : Bool} {ls : List LK} (h : kindE P e = some (agg, ls)) : ∃ i, P.info? e = some i ∧ i.size = ls.length ∧ 0 < ls.length ∧ agg = isAggT P e ∧ leavesN P 60 e = some ls := by
  unfold kindE at h
  split at h
  · rename_i ls' n hl hn
    split at h
    · rename_i he
      simp only [Option.some.injEq, Prod.mk.injEq] at h
      obtain ⟨rfl, rfl⟩ := h
      obtain ⟨i, hi, hs⟩ := Option.map_eq_some_iff.1 hn
      exact ⟨i, hi, by omega, by omega, rfl, hl⟩
    · cases h
  · cases h
/-- A cut of what is read. -/
theorem Cells.cut {a : Option Addr} {cs : List Value} (h : Cells w A a cs) (m n : Nat) (c l : Nat) (hcl : c = l → (cs.take n).drop m = []) : Cells w A (if c = l then a else a.map (·.add m)) ((cs.take n).drop m) := by
  by_cases he : (cs.take n).drop m = []
  · exact .inl he
  · rcases h with rfl | ⟨ad, rfl, hA, hc⟩
    · exact absurd (by simp) he
    · rw [if_neg (fun e => he (hcl e))]
      refine .inr ⟨ad.add m, rfl, ?_, fun j u hu => ?_⟩
      · have : (ad.add m).block = ad.block := by unfold Addr.add; split <;> rfl
        rw [this]; exact hA
      · have ha : (ad.add m).add j = ad.add (m + j) := by
          unfold Addr.add
          by_cases h1 : m = 0 <;> by_cases h2 : j = 0 <;> simp [h1, h2, Nat.add_assoc]
        rw [ha]
        apply hc
        rw [List.getElem?_drop, List.getElem?_take] at hu
        split at hu
        · exact hu
        · cases hu

/-- What 'x[lo:hi]' is, of a slice. -/
def bounds (n : Nat) (lo hi : Option Int) : Option (Nat × Nat) :=
  match lo, hi with
  | none, none => some (0, n)
  | some a, none => if 0 ≤ a ∧ a ≤ (n : Int) then some (a.toNat, n) else none
  | none, some b => if 0 ≤ b ∧ b ≤ (n : Int) then some (0, b.toNat) else none
  | some a, some b => if 0 ≤ a ∧ a ≤ b ∧ b ≤ (n : Int) then some (a.toNat, b.toNat) else none
theorem cutL_bounds {α : Type} {xs ys : List α} {lo hi : Option Int} (h : cutL xs lo hi = some ys) : ∃ l r, bounds xs.length lo hi = some (l, r) ∧ l ≤ r ∧ r ≤ xs.length ∧ ys = (xs.take r).drop l := by
  unfold cutL at h
  split at h
  · simp only [Option.some.injEq] at h
    subst h
    exact ⟨0, xs.length, rfl, by omega, by omega, by simp⟩
  · rename_i b
    by_cases hb : 0 ≤ b ∧ b ≤ (xs.length : Int)
    · rw [show (decide (0 ≤ b) && decide (b ≤ (xs.length : Int))) = true by simpa using hb] at h
      simp only [ifB, Option.some.injEq] at h
      subst h
      exact ⟨b.toNat, xs.length, by simp [bounds, hb], by omega, by omega, by simp⟩
    · rw [show (decide (0 ≤ b) && decide (b ≤ (xs.length : Int))) = false by rw [Bool.eq_false_iff]; simpa using hb] at h
      simp [ifB] at h
  · rename_i b
    by_cases hb : 0 ≤ b ∧ b ≤ (xs.length : Int)
    · rw [show (decide (0 ≤ b) && decide (b ≤ (xs.length : Int))) = true by simpa using hb] at h
      simp only [ifB, Option.some.injEq] at h
      subst h
      exact ⟨0, b.toNat, by simp [bounds, hb], by omega, by omega, by simp⟩
    · rw [show (decide (0 ≤ b) && decide (b ≤ (xs.length : Int))) = false by rw [Bool.eq_false_iff]; simpa using hb] at h
      simp [ifB] at h
  · rename_i b c
    by_cases hb : 0 ≤ b ∧ b ≤ c ∧ c ≤ (xs.length : Int)
    · rw [show (decide (0 ≤ b) && decide (b ≤ c) && decide (c ≤ (xs.length : Int))) = true by simpa [and_assoc] using hb] at h
      simp only [ifB, Option.some.injEq] at h
      subst h
      exact ⟨b.toNat, c.toNat, by simp [bounds, hb], by omega, by omega, rfl⟩
    · rw [show (decide (0 ≤ b) && decide (b ≤ c) && decide (c ≤ (xs.length : Int))) = false by rw [Bool.eq_false_iff]; simpa [and_assoc] using hb] at h
      simp [ifB] at h

/-- Bounds as values. -/
def BV : Option Int → Option Value → Prop
  | none, none => True
  | some n, some v => ∃ k, v = .int k n
  | _, _ => False
theorem run_sliceBounds {lo hi : Option Int} {vl vh : Option Value} (h1 : BV lo vl) (h2 : BV hi vh) {n c l r : Nat} (hb : bounds n lo hi = some (l, r)) (hn : n ≤ c) (st : Bool) :
    (Instr.sliceBounds st n c vl vh none).run P w = .ok (l, r, c) w := by
  unfold bounds at hb
  split at hb
  · cases vl <;> cases vh <;> simp only [BV] at h1 h2
    simp only [Option.some.injEq, Prod.mk.injEq] at hb
    obtain ⟨rfl, rfl⟩ := hb
    simp [Instr.sliceBounds]
  · rename_i b
    cases vl <;> cases vh <;> simp only [BV] at h1 h2
    obtain ⟨k, rfl⟩ := h1
    split at hb
    · rename_i hc
      simp only [Option.some.injEq, Prod.mk.injEq] at hb
      obtain ⟨rfl, rfl⟩ := hb
      simp [Instr.sliceBounds, run_sliceBound, hc.1, hc.2]
    · cases hb
  · rename_i b
    cases vl <;> cases vh <;> simp only [BV] at h1 h2
    obtain ⟨k, rfl⟩ := h2
    split at hb
    · rename_i hc
      simp only [Option.some.injEq, Prod.mk.injEq] at hb
      obtain ⟨rfl, rfl⟩ := hb
      have : b ≤ (c : Int) := by omega
      simp [Instr.sliceBounds, run_sliceBound, hc.1, this]
    · cases hb
  · rename_i b d
    cases vl <;> cases vh <;> simp only [BV] at h1 h2
    obtain ⟨k, rfl⟩ := h1
    obtain ⟨k', rfl⟩ := h2
    split at hb
    · rename_i hc
      simp only [Option.some.injEq, Prod.mk.injEq] at hb
      obtain ⟨rfl, rfl⟩ := hb
      have h3 : d ≤ (c : Int) := by omega
      have h4 : 0 ≤ d := by omega
      have h5 : b ≤ (d.toNat : Int) := by omega
      have h6 := run_sliceBound (P := P) w k b d.toNat .sliceB hc.1 h5
      simp [Instr.sliceBounds, run_sliceBound, h3, h4, h6]
    · cases hb
theorem run_slice_sl {t e : TypeId} {i : TypeInfo} (ht : P.underlying t = some (.slice e)) (hi : P.info? e = some i) {lo hi' : Option Int} {vl vh : Option Value} (h1 : BV lo vl) (h2 : BV hi' vh) {n c l r : Nat} {ad : Option Addr} (hb : bounds n lo hi' = some (l, r)) (hn : n ≤ c) :
    (Instr.sliceAt t (.slice ad n c) vl vh none).run P w = .ok (.slice (if c = l then ad else ad.map (·.add (l * i.size))) (r - l) (c - l)) w := by
  have hbr := run_sliceBounds (P := P) (w := w) h1 h2 hb hn true
  simp [Instr.sliceAt, Instr.slice, run_underlying ht, hbr, sizeOf, typeInfo, hi]
theorem run_slice_str {t : TypeId} (ht : P.underlying t = some .string) {lo hi' : Option Int} {vl vh : Option Value} (h1 : BV lo vl) (h2 : BV hi' vh) {l r : Nat} {sx : ByteArray} (hb : bounds sx.size lo hi' = some (l, r)) :
    (Instr.sliceAt t (.string sx) vl vh none).run P w = .ok (.string (sx.extract l r)) w := by
  have hbr := run_sliceBounds (P := P) (w := w) h1 h2 hb (Nat.le_refl _) false
  simp [Instr.sliceAt, Instr.slice, run_underlying ht, hbr]
theorem extract_list (l : List UInt8) (m n : Nat) : (⟨l.toArray⟩ : ByteArray).extract m n = ⟨((l.take n).drop m).toArray⟩ := by
  apply ByteArray.ext
  rw [ByteArray.data_extract]
  apply Array.ext'
  simp [List.drop_take]
theorem Rs_sub {agg : Bool} {ls : List LK} {xs : List T} {us : List Value} (ho : ∀ x ∈ xs, okElem agg ls x = true) (h : Rs P w A xs us) (l r : Nat) : Rs P w A ((xs.take r).drop l) ((us.take (r * ls.length)).drop (l * ls.length)) :=
  Rs.drop (agg := agg) (ls := ls) (fun x hx => ho x (List.mem_of_mem_take hx)) l (Rs.take ho r h)
/-- A cut of a datum, of whatever kind. -/
theorem cut_ok {t : TypeId} {k : SK} {x y : T} {u : Value} {lo hi : Option Int} {vl vh : Option Value} (hk : skT P t k = true) (hx : skOk k x = true) (h : R P w A x [u]) (hc : cutT x lo hi = some y) (h1 : BV lo vl) (h2 : BV hi vh) :
    ∃ v, (Instr.sliceAt t u vl vh none).run P w = .ok v w ∧ R P w A y [v] := by
  cases x <;> simp only [cutT, Option.map_eq_some_iff, reduceCtorEq] at hc
  · rename_i l
    obtain ⟨ys, hy, rfl⟩ := hc
    obtain ⟨a, b, hb, h3, h4, rfl⟩ := cutL_bounds hy
    simp only [R, List.cons.injEq, and_true] at h
    obtain ⟨rfl, hl⟩ := h
    cases k <;> simp only [skOk, Bool.false_eq_true] at hx
    simp only [skT] at hk
    refine ⟨_, run_slice_str (isStr_eq hk) h1 h2 (sx := ⟨l.toArray⟩) (by simpa [ByteArray.size] using hb), ?_⟩
    rw [extract_list]
    exact ⟨rfl, by simp; omega⟩
  · rename_i z l
    obtain ⟨ys, hy, rfl⟩ := hc
    obtain ⟨a, b, hb, h3, h4, rfl⟩ := cutL_bounds hy
    obtain ⟨ad, c, hu, h5, h6, h7, h8⟩ := h
    simp only [List.cons.injEq, and_true] at hu
    subst hu
    cases k <;> simp only [skOk, Bool.false_eq_true] at hx
    simp only [skT] at hk
    obtain ⟨e, i, he, he8, hi', hs⟩ := bySl_eq hk
    refine ⟨_, run_slice_sl he hi' h1 h2 hb h5, ?_⟩
    simp only [R]
    refine ⟨(if c = a then ad else ad.map (·.add (a * i.size))), c - a, by simp [Nat.min_eq_left h4], by simp; omega, by omega, ⟨fun hz => ?_, fun hn => ?_⟩, ?_⟩
    · obtain ⟨rfl, rfl⟩ := h7.1 hz
      simp
    · split at hn
      · omega
      · have : ad = none := by simpa using hn
        have := h7.2 this
        omega
    · have := h8.cut a b c a (by intro hca; simp; omega)
      simpa [hs, List.map_drop, List.map_take] using this
  · rename_i z e' xs
    obtain ⟨ys, hy, rfl⟩ := hc
    obtain ⟨a, b, hb, h3, h4, rfl⟩ := cutL_bounds hy
    simp only [R] at h
    obtain ⟨ad, c, cs, hu, h5, h6, h7, h8, h9, agg, ls, hke, hok⟩ := h
    simp only [List.cons.injEq, and_true] at hu
    subst hu
    cases k <;> simp only [skOk, Bool.false_eq_true, beq_iff_eq] at hx
    subst hx
    simp only [skT, beq_iff_eq] at hk
    obtain ⟨i, hi', hs, _⟩ := kindE_size hke
    obtain ⟨hlen, _⟩ := Rs.elems hok h9
    refine ⟨_, run_slice_sl (elem_eq hk) hi' h1 h2 hb h5, ?_⟩
    simp only [R]
    refine ⟨(if c = a then ad else ad.map (·.add (a * i.size))), c - a, (cs.take (b * ls.length)).drop (a * ls.length), by simp [Nat.min_eq_left h4], by simp; omega, by omega, fun hz => ?_, ?_, Rs_sub hok h9 a b, agg, ls, hke, fun x hx => hok x (List.mem_of_mem_take (List.mem_of_mem_drop hx))⟩
    · obtain ⟨rfl, rfl⟩ := h7 hz
      simp
    · rw [hs]
      refine h8.cut (a * ls.length) (b * ls.length) c a (fun hca => ?_)
      have : b = a := by omega
      subst this
      simp
end
section
variable {C : Ctx} {w : World} {g : Nat → Value} {s s' : S} {a : Act} {o : Oper} {d : Option Nat} {out : Out} {call : FuncId → List V → Obs → Option Res}
theorem idxOf_ok (h : Inv C w g s a) {x : Option Operand} {y : Option Opd} (ho : okOpt C.P x y = true) {b : Option Int} (hb : idxOf (y.map (ev s.env)) = some b) : BV b (x.map a.eval) := by
  cases x <;> cases y <;> simp only [okOpt, Bool.false_eq_true] at ho
  · simp only [Option.map, idxOf, Option.some.injEq] at hb
    subst hb
    trivial
  · rename_i x y
    have e := ev_ok h ho
    simp only [Option.map] at hb ⊢
    unfold idxOf at hb
    split at hb
    · rename_i hq; cases hq
    · rename_i k n hq
      simp only [Option.some.injEq] at hq hb
      rw [hq] at e
      subst hb
      exact ⟨k, (RV_i e).1⟩
    · cases hb
/-- A cut of what is read, not of a row. -/
theorem slc_ok (h : Inv C w g s a) {t : TypeId} {k : SK} {x : Operand} {lo hi : Option Operand} {x' : Opd} {lo' hi' : Option Opd} (hop : o.op = .slice t x lo hi none) (hk : skT C.P t k = true)
    (hx : okOpd C.P x x' = true) (hl : okOpt C.P lo lo' = true) (hh : okOpt C.P hi hi' = true) {q : T} (hq : ev s.env x' = .im q) (hs : stepO call s d (.slc k x' lo' hi') = some (out, s')) : Pu C w g s a o d out s' := by
  simp only [stepO] at hs
  split at hs
  · rename_i b c hb hc
    rw [hq] at hs
    simp only at hs
    by_cases hkq : skOk k q = true
    · rw [hkq, cond_true] at hs
      obtain ⟨r, hr, hz⟩ := bind_go hs
      simp only [Prod.mk.injEq] at hz
      obtain ⟨rfl, rfl⟩ := hz
      have e := ev_ok h hx
      rw [hq] at e
      obtain ⟨v, hv, hR⟩ := cut_ok hk hkq e hr (idxOf_ok h hl hb) (idxOf_ok h hh hc)
      exact ⟨rfl, v, _, by simp [execOp, hop, hv], rfl, hR⟩
    · rw [Bool.not_eq_true] at hkq
      rw [hkq] at hs
      cases hs
  · cases hs
theorem ixs_ok (h : Inv C w g s a) {t : TypeId} {x i : Operand} {x' i' : Opd} (hop : o.op = .index t x i) (ht : isStr C.P t = true) (hx : okOpd C.P x x' = true) (hi : okOpd C.P i i' = true)
    (hs : stepO call s d (.ixs x' i') = some (out, s')) : Pu C w g s a o d out s' := by
  simp only [stepO] at hs
  split at hs
  · rename_i l k n hl hn
    have ex := ev_ok h hx
    have ei := ev_ok h hi
    rw [hl] at ex
    rw [hn] at ei
    obtain ⟨ex, _⟩ := RV_s ex
    obtain ⟨ei, _⟩ := RV_i ei
    by_cases hb : 0 ≤ n ∧ n < (l.length : Int)
    · rw [show (decide (0 ≤ n) && decide (n < (l.length : Int))) = true by simpa using hb] at hs
      obtain ⟨rfl, rfl⟩ := go_eq hs
      have hlt : n.toNat < l.length := by omega
      refine ⟨rfl, .int .u8 ((l.getD n.toNat 0).toNat : Int), _, ?_, rfl, ⟨rfl, (byte_in _).1, (byte_in _).2⟩⟩
      have e1 : (⟨l.toArray⟩ : ByteArray)[n.toNat]? = some (l.getD n.toNat 0) := by
        have hsz : n.toNat < (⟨l.toArray⟩ : ByteArray).size := by simpa [ByteArray.size] using hlt
        rw [getElem?_pos (⟨l.toArray⟩ : ByteArray) n.toNat hsz]
        simp [ByteArray.getElem_eq_getElem_data, List.getD, hlt]
      simp [execOp, hop, ex, ei, Instr.index, asIntOf, run_underlying (isStr_eq ht), hb.1, e1]
    · rw [show (decide (0 ≤ n) && decide (n < (l.length : Int))) = false by rw [Bool.eq_false_iff]; simpa using hb] at hs
      cases hs
  · cases hs
theorem nc_ok (h : Inv C w g s a) {x : Operand} {x' : Opd} (hop : o.op = .nilCheck x) (hx : okOpd C.P x x' = true) (hs : stepO call s d (.nc x') = some (out, s')) : Pu C w g s a o d out s' := by
  simp only [stepO] at hs
  have ex := ev_ok h hx
  split at hs
  · rename_i q c hq
    obtain ⟨rfl, rfl⟩ := go_eq hs
    rw [hq] at ex
    have ex' := ex
    obtain ⟨b, _, e⟩ := ex
    exact ⟨rfl, _, _, by simp [execOp, hop, e], rfl, e ▸ ex'⟩
  · rename_i f vs hq
    obtain ⟨rfl, rfl⟩ := go_eq hs
    rw [hq] at ex
    have ex' := ex
    obtain ⟨us, e, _⟩ := ex
    exact ⟨rfl, _, _, by simp [execOp, hop, e], rfl, e ▸ ex'⟩
  · rename_i ts hq
    obtain ⟨rfl, rfl⟩ := go_eq hs
    rw [hq] at ex
    have ex' := ex
    obtain ⟨b, us, e, _⟩ := ex
    exact ⟨rfl, _, _, by simp [execOp, hop, e], rfl, e ▸ ex'⟩
  · cases hs
theorem fieldOff_eq {P : Program} {t : TypeId} {f off : Nat} {ft : TypeId} (h : fieldOff P t f = some (off, ft)) : ∃ fs fd, P.underlying t = some (.struct fs) ∧ fs[f]? = some fd ∧ fd.offset = off ∧ fd.type = ft := by
  unfold fieldOff at h
  split at h
  · rename_i fs hfs
    obtain ⟨fd, h1, h2⟩ := Option.map_eq_some_iff.1 h
    simp only [Prod.mk.injEq] at h2
    exact ⟨fs, fd, hfs, h1, h2.1, h2.2⟩
  · cases h
theorem getD_drop {α : Type} (l : List α) (n : Nat) (a : α) : (l.drop n).getD 0 a = l.getD n a := by simp [List.getD, List.getElem?_drop]
end
end Go.Proofs.Av
end
section
namespace Go.Proofs.Av
open Go.RowKit
/-- What lies at an address. -/
def RdAt (w : World) (ad : Addr) (us : List Value) : Prop := ∀ j u, us[j]? = some u → w.cell? (ad.add j) = some u
theorem Addr.add_add (ad : Addr) (m n : Nat) : (ad.add m).add n = ad.add (m + n) := by
  unfold Addr.add
  by_cases h1 : m = 0 <;> by_cases h2 : n = 0 <;> simp [h1, h2, Nat.add_assoc]
theorem add_pl (b c n : Nat) : (⟨b, c, none⟩ : Addr).add n = ⟨b, c + n, none⟩ := by
  unfold Addr.add
  split <;> simp_all
section
variable {P : Program} {w : World} {A : Nat → Prop} {g : Nat → Value}
theorem Rs.one : ∀ {ts : List T} {us : List Value}, (∀ x ∈ ts, ∀ cs, x ≠ .ag cs) → Rs P w A ts us → us.length = ts.length ∧ RVs P w A g (ts.map .im) us ∧ ∀ n, Rs P w A (ts.drop n) (us.drop n)
  | [], us, _, h => by simp only [Rs] at h; subst h; exact ⟨rfl, rfl, fun n => by simp [Rs]⟩
  | x :: r, us, hn, h => by
    simp only [Rs] at h
    obtain ⟨u1, u2, rfl, h2, h3⟩ := h
    obtain ⟨u, rfl, _⟩ := h2.one (hn x (by simp))
    obtain ⟨e1, e2, e3⟩ := Rs.one (fun y hy => hn y (by simp [hy])) h3
    refine ⟨by simp [e1], ⟨u, u2, rfl, h2, e2⟩, fun n => ?_⟩
    cases n with
    | zero => exact ⟨[u], u2, rfl, h2, h3⟩
    | succ n => simpa using e3 n
theorem RVs.len : ∀ {vs : List V} {us : List Value}, RVs P w A g vs us → us.length = vs.length
  | [], us, h => by simp only [RVs] at h; subst h; rfl
  | v :: r, us, h => by
    simp only [RVs] at h
    obtain ⟨u, us', rfl, _, h3⟩ := h
    simp [RVs.len h3]
theorem RVs.at_ : ∀ {vs : List V} {us : List Value}, RVs P w A g vs us → ∀ {j : Nat} {v : V}, vs[j]? = some v → ∃ u, us[j]? = some u ∧ RV P w A g v u
  | v :: r, us, h, j, x, hj => by
    simp only [RVs] at h
    obtain ⟨u, us', rfl, h2, h3⟩ := h
    cases j with
    | zero => simp only [List.getElem?_cons_zero, Option.some.injEq] at hj; subst hj; exact ⟨u, rfl, h2⟩
    | succ j => simpa using RVs.at_ h3 (by simpa using hj)
  | [], us, h, j, x, hj => by simp at hj
theorem RVs.drop : ∀ {vs : List V} {us : List Value}, RVs P w A g vs us → ∀ n, RVs P w A g (vs.drop n) (us.drop n)
  | [], us, h, n => by simp only [RVs] at h; subst h; simp [RVs]
  | v :: r, us, h, n => by
    have h' := h
    simp only [RVs] at h
    obtain ⟨u, us', rfl, h2, h3⟩ := h
    cases n with
    | zero => exact h'
    | succ n => simpa using RVs.drop h3 n
theorem RVs.take : ∀ {vs : List V} {us : List Value}, RVs P w A g vs us → ∀ n, RVs P w A g (vs.take n) (us.take n)
  | [], us, h, n => by simp only [RVs] at h; subst h; simp [RVs]
  | v :: r, us, h, n => by
    simp only [RVs] at h
    obtain ⟨u, us', rfl, h2, h3⟩ := h
    cases n with
    | zero => simp [RVs]
    | succ n => exact ⟨u, us'.take n, rfl, h2, RVs.take h3 n⟩
theorem agg_desc {t : TypeId} (h : isAggT P t = true) : ∃ d, P.underlying t = some d ∧ ((∃ fs, d = .struct fs) ∨ ∃ n e, d = .array n e) := by
  unfold isAggT at h
  split at h
  · rename_i fs hf; exact ⟨_, hf, .inl ⟨_, rfl⟩⟩
  · rename_i n e hf; exact ⟨_, hf, .inr ⟨_, _, rfl⟩⟩
  · cases h
theorem run_isAgg {t : TypeId} {d : TypeDesc} (h : P.underlying t = some d) : (isAgg t).run P w = .ok (isAggT P t) w := by
  simp only [isAgg, Sem.run_bind, run_underlying h, Result.andThen, isAggT, h]
  split <;> simp_all
/-- A load of a type out of cells that are known. -/
theorem ld_gen {t : TypeId} {n : Option Nat} (hn : okN P t n = true) {vs : List V} {us : List Value} (h : RVs P w A g vs us) {ad : Addr} (hr : RdAt w ad us) {c : Nat} {v : V} (hv : ldV n vs c = some v) :
    ∃ u, (Instr.loadAt t (.pointer (some (ad.add c)))).run P w = .ok u w ∧ RV P w A g v u := by
  cases n with
  | none =>
    simp only [ldV] at hv
    obtain ⟨u, hu, hR⟩ := RVs.at_ h hv
    simp only [okN, Bool.and_eq_true, Bool.not_eq_true'] at hn
    obtain ⟨d, hd⟩ := Option.isSome_iff_exists.1 hn.1.2
    refine ⟨u, ?_, hR⟩
    have hc := hr c u hu
    simp [Instr.loadAt, Instr.sureAddr, loadVar, run_isAgg hd, hn.1.1, load, Sem.run, hc]
  | some k =>
    simp only [ldV] at hv
    by_cases hk : c + k ≤ vs.length
    · rw [show decide (c + k ≤ vs.length) = true by simpa using hk, cond_true] at hv
      simp only [Option.some.injEq] at hv
      subst hv
      simp only [okN, Bool.and_eq_true, beq_iff_eq] at hn
      obtain ⟨hagg, hs⟩ := hn
      obtain ⟨d, hd, _⟩ := agg_desc hagg
      obtain ⟨i, hi, his⟩ := Option.map_eq_some_iff.1 hs
      have hl := RVs.len h
      refine ⟨.agg ((us.drop c).take k).toArray, ?_, ⟨_, rfl, by simpa using RVs.take (RVs.drop h c) k⟩⟩
      have hcs := run_loadCells_list (P := P) w (ad.add c) ((us.drop c).take k) (fun j v hj => by
        rw [Addr.add_add]
        apply hr
        rw [List.getElem?_take, List.getElem?_drop] at hj
        split at hj
        · exact hj
        · cases hj)
      have hlen : ((us.drop c).take k).length = k := by simp; omega
      rw [hlen] at hcs
      simp [Instr.loadAt, Instr.sureAddr, loadVar, run_isAgg hd, hagg, sizeOf, typeInfo, hi, his, hcs]
    · rw [show decide (c + k ≤ vs.length) = false by simpa using hk] at hv
      cases hv
theorem etaL_ok {l : LK} {x : T} (h : okLeaf l x = true) : etaL l x = x := by
  cases l <;> cases x <;> simp_all [okLeaf, etaL, getI, getB, getS, getBy, getZ, getL]
theorem etaC_agg : ∀ {ls : List LK} {cs : List T} (n : Nat) (all : List T), okLeaves ls cs = true → all.drop n = cs → (ls.zipIdx n).map (fun l => etaL l.1 (all.getD l.2 (.b false))) = cs
  | [], [], _, _, _, _ => rfl
  | l :: ls, x :: xs, n, all, h, he => by
    simp only [okLeaves, Bool.and_eq_true] at h
    have hx : all.getD n (.b false) = x := by
      have := getD_drop all n (.b false)
      rw [he] at this
      simpa using this.symm
    simp only [List.zipIdx_cons, List.map_cons, hx, etaL_ok h.1]
    congr 1
    refine etaC_agg (n + 1) all h.2 ?_
    rw [← List.drop_drop, he]
    rfl
  | [], _ :: _, _, _, h, _ => by simp [okLeaves] at h
  | _ :: _, [], _, _, h, _ => by simp [okLeaves] at h
theorem etaC_ok {agg : Bool} {ls : List LK} {x : T} {us : List Value} (ho : okElem agg ls x = true) (h : R P w A x us) : Rs P w A (etaC agg ls x) us ∧ okLeaves ls (etaC agg ls x) = true := by
  cases agg with
  | true =>
    obtain ⟨cs, rfl, hc⟩ := okElem_agg ho
    have : etaC true ls (.ag cs) = cs := by
      unfold etaC
      rw [if_pos rfl]
      exact etaC_agg 0 cs hc rfl
    rw [this]
    exact ⟨h, hc⟩
  | false =>
    have hc := okElem_one ho
    match ls, hc with
    | [], hc => simp [okLeaves] at hc
    | _ :: _ :: _, hc => simp [okLeaves] at hc
    | [l], hc =>
      simp only [okLeaves, Bool.and_true] at hc
      have : etaC false [l] x = [x] := by simp [etaC, etaL_ok hc]
      rw [this]
      exact ⟨⟨us, [], by simp, h, rfl⟩, by simp [okLeaves, hc]⟩
theorem leaves_ne : ∀ {ls : List LK} {cs : List T}, okLeaves ls cs = true → ∀ x ∈ cs, ∀ ds, x ≠ .ag ds
  | [], [], _ => by simp
  | l :: ls, x :: xs, h => by
    simp only [okLeaves, Bool.and_eq_true] at h
    intro y hy
    rcases List.mem_cons.1 hy with rfl | hy
    · exact okLeaf_ne h.1
    · exact leaves_ne h.2 y hy
  | [], _ :: _, h => by simp [okLeaves] at h
  | _ :: _, [], h => by simp [okLeaves] at h
/-- The place of an element. -/
theorem run_ia {t e : TypeId} {i : TypeInfo} (ht : P.underlying t = some (.slice e)) (hi : P.info? e = some i) {ad : Addr} {n c : Nat} {k : IntKind} {j : Int} (h0 : 0 ≤ j) (h1 : j < (n : Int)) :
    (Instr.indexAt t (.slice (some ad) n c) (.int k j)).run P w = .ok (.pointer (some (ad.add (j.toNat * i.size)))) w := by
  simp [Instr.indexAt, run_underlying ht, asIntOf, h0, h1, sizeOf, typeInfo, hi]
end
section
variable {C : Ctx} {w : World} {g : Nat → Value} {s s' : S} {a : Act} {o : Oper} {d : Option Nat} {out : Out} {call : FuncId → List V → Obs → Option Res}
theorem run_field {P : Program} {w : World} {t : TypeId} {f off : Nat} {ft : TypeId} {i : TypeInfo} (h : fieldOff P t f = some (off, ft)) (hi : P.info? ft = some i) (hs : 0 < i.size) (ad : Addr) :
    (Instr.fieldAt t (.pointer (some ad)) f).run P w = .ok (.pointer (some (ad.add off))) w := by
  obtain ⟨fs, fd, h1, h2, rfl, rfl⟩ := fieldOff_eq h
  have : ¬ i.size = 0 := by omega
  simp [Instr.fieldAt, run_underlying h1, h2, Instr.sureAddr, fieldPlace, sizeOf, typeInfo, hi, this]
theorem fa_ok (h : Inv C w g s a) {t : TypeId} {f off : Nat} {x : Operand} {x' : Opd} (hop : o.op = .fieldAddr t x f) {ft : TypeId} {i : TypeInfo} (hf : fieldOff C.P t f = some (off, ft)) (hi : C.P.info? ft = some i) (hz : 0 < i.size) (hx : okOpd C.P x x' = true)
    (hs : stepO call s d (.fa off x') = some (out, s')) : Pu C w g s a o d out s' := by
  simp only [stepO] at hs
  have ex := ev_ok h hx
  split at hs
  · rename_i q c hq
    obtain ⟨rfl, rfl⟩ := go_eq hs
    rw [hq] at ex
    obtain ⟨b, h1, e⟩ := ex
    exact ⟨rfl, .pointer (some ⟨b, c + off, none⟩), _, by simp [execOp, hop, e, run_field hf hi hz, add_pl], rfl, ⟨b, h1, rfl⟩⟩
  · rename_i q k agg ls j c hq
    obtain ⟨rfl, rfl⟩ := go_eq hs
    rw [hq] at ex
    obtain ⟨b, n, cap, h1, hj, e, hk⟩ := ex
    exact ⟨rfl, .pointer (some ⟨b, j * ls.length + (c + off), none⟩), _, by simp [execOp, hop, e, run_field hf hi hz, add_pl, Nat.add_assoc], rfl, ⟨b, n, cap, h1, hj, rfl, hk⟩⟩
  · rename_i ts hq
    obtain ⟨rfl, rfl⟩ := go_eq hs
    rw [hq] at ex
    obtain ⟨ad, us, e, h1, h2, h3⟩ := ex
    refine ⟨rfl, .pointer (some (ad.add off)), _, by simp [execOp, hop, e, run_field hf hi hz], rfl, ⟨_, us.drop off, rfl, ?_, (Rs.one (g := g) h3 h2).2.2 off, fun x hx => h3 x (List.mem_of_mem_drop hx)⟩⟩
    by_cases he : us.drop off = []
    · exact .inl he
    · rcases h1 with rfl | ⟨ad', h4, hA, hc⟩
      · exact absurd (by simp) he
      · simp only [Option.some.injEq] at h4
        subst h4
        refine .inr ⟨_, rfl, ?_, fun j u hu => ?_⟩
        · have : (ad.add off).block = ad.block := by unfold Addr.add; split <;> rfl
          rw [this]; exact hA
        · rw [Addr.add_add]
          exact hc _ u (by rwa [List.getElem?_drop] at hu)
  · cases hs
end
end Go.Proofs.Av
end
section
namespace Go.Proofs.Av
open Go.RowKit
section
variable {C : Ctx} {w : World} {g : Nat → Value} {s s' : S} {a : Act} {o : Oper} {d : Option Nat} {out : Out} {call : FuncId → List V → Obs → Option Res}
theorem box_rd {P : Program} {A : Nat → Prop} {q : Nat} {vs : List V} (h : RO P w A g q (.box vs)) : ∃ b us, g q = .pointer (some ⟨b, 0, none⟩) ∧ RVs P w A g vs us ∧ RdAt w ⟨b, 0, none⟩ us := by
  obtain ⟨b, us, e, h1, h2, h3⟩ := h
  refine ⟨b, us.toList, h1, h3, fun j u hu => ?_⟩
  rw [add_pl, Nat.zero_add, cell_of_row w b j us e (0, 0) h2]
  simpa using hu
theorem row_elem {P : Program} {A : Nat → Prop} {q : Nat} {e : TypeId} {t : T} (h : RO P w A g q (.row e t)) {k : SK} {agg : Bool} {ls : List LK} {j c0 : Nat} {u : Value} (hv : RV P w A g (.re q k agg ls j c0) u) (hk : skOk k t = true) {cs : List T} (hc : rowCells t agg ls j = some cs) :
    ∃ b us, u = .pointer (some ((⟨b, j * ls.length, none⟩ : Addr).add c0)) ∧ Rs P w A cs us ∧ okLeaves ls cs = true ∧ RdAt w ⟨b, j * ls.length, none⟩ us := by
  obtain ⟨b, n, cap, h1, hj, rfl, h2⟩ := hv
  obtain ⟨m, us, sz, h3, h4, h5, h6, h7, h8⟩ := h
  have hrd : RdAt w ⟨b, 0, none⟩ us := h3.cells (g := b) (by rw [h1]; rfl)
  have hm : m = n := by
    rcases h3.2 with ⟨e1, _⟩ | ⟨gg, cap', cur, e1, _⟩
    · rw [h1] at e1; cases e1
    · rw [h1] at e1; injection e1 with _ e2; exact e2.symm
  subst hm
  cases t <;> simp only [rowCells, Option.some.injEq, reduceCtorEq] at hc
  · rename_i z l
    subst hc
    cases k <;> simp only [skOk, Bool.false_eq_true] at hk
    obtain ⟨rfl, rfl⟩ := h2
    simp only [tlen, Option.some.injEq] at h6
    have e := Rs.bytes_eq h7
    subst e
    have hl : l.getD j 0 = l[j] := by simp [List.getD, show j < l.length by omega]
    refine ⟨b, [byteV (l.getD j 0)], by rw [add_pl], ⟨[byteV (l.getD j 0)], [], rfl, ⟨rfl, byte_in _⟩, rfl⟩, by simp [okLeaves, okLeaf, byteT], fun i u hu => ?_⟩
    cases i with
    | succ i => simp at hu
    | zero =>
      simp only [List.getElem?_cons_zero, Option.some.injEq] at hu
      subst hu
      have := hrd j (byteV (l.getD j 0)) (by rw [hl]; simp [show j < l.length by omega])
      rw [add_pl] at this
      rw [add_pl]
      simpa using this
  · rename_i z e' xs
    subst hc
    cases k <;> simp only [skOk, Bool.false_eq_true, beq_iff_eq] at hk
    subst hk
    obtain ⟨_, rfl, agg', ls', hke, hok⟩ := h8
    have h2' : kindE P _ = some (agg, ls) := h2
    rw [hke] at h2'
    simp only [Option.some.injEq, Prod.mk.injEq] at h2'
    obtain ⟨rfl, rfl⟩ := h2'
    simp only [tlen, Option.some.injEq] at h6
    have hx : xs[j]? = some (xs.getD j (.b false)) := by simp [List.getD, show j < xs.length by omega]
    obtain ⟨_, _, hel⟩ := Rs.elems hok h7
    have hR := hel j _ hx
    obtain ⟨hE, hL⟩ := etaC_ok (hok _ (List.mem_of_getElem? hx)) hR
    refine ⟨b, _, by rw [add_pl], hE, hL, fun i u hu => ?_⟩
    rw [add_pl]
    rw [List.getElem?_take, List.getElem?_drop] at hu
    split at hu
    · have := hrd _ u hu
      rwa [add_pl, Nat.zero_add] at this
    · cases hu
theorem ld_ok (h : Inv C w g s a) {t : TypeId} {n : Option Nat} {x : Operand} {x' : Opd} (hop : o.op = .load t x) (hn : okN C.P t n = true) (hx : okOpd C.P x x' = true) (hs : stepO call s d (.ld n x') = some (out, s')) : Pu C w g s a o d out s' := by
  simp only [stepO] at hs
  have ex := ev_ok h hx
  split at hs
  · rename_i ts hq
    obtain ⟨v, hv, hz⟩ := bind_go hs
    simp only [Prod.mk.injEq] at hz
    obtain ⟨rfl, rfl⟩ := hz
    rw [hq] at ex
    obtain ⟨ad, us, e, h1, h2, h3⟩ := ex
    obtain ⟨_, h4, _⟩ := Rs.one (g := g) h3 h2
    have hr : RdAt w ad us := by
      rcases h1 with rfl | ⟨ad', h5, _, hc⟩
      · intro j u hu; simp at hu
      · simp only [Option.some.injEq] at h5; subst h5; exact hc
    obtain ⟨u, hu, hR⟩ := ld_gen hn h4 hr hv
    have e0 : ad.add 0 = ad := by simp [Addr.add]
    rw [e0] at hu
    exact ⟨rfl, u, _, by simp [execOp, hop, e, hu], rfl, hR⟩
  · rename_i q c hq
    rw [hq] at ex
    obtain ⟨b, h1, e⟩ := ex
    split at hs
    · rename_i cs hb
      obtain ⟨v, hv, hz⟩ := bind_go hs
      simp only [Prod.mk.injEq] at hz
      obtain ⟨rfl, rfl⟩ := hz
      obtain ⟨b', us, h2, h3, h4⟩ := box_rd (h.obs _ _ hb)
      rw [h1] at h2
      injection h2 with h2
      injection h2 with h2
      injection h2 with h2
      subst h2
      obtain ⟨u, hu, hR⟩ := ld_gen hn h3 h4 hv
      rw [add_pl, Nat.zero_add] at hu
      exact ⟨rfl, u, _, by simp [execOp, hop, e, hu], rfl, hR⟩
    · cases hs
  · rename_i q k agg ls j c hq
    rw [hq] at ex
    split at hs
    · rename_i e t' hb
      by_cases hk : skOk k t' = true
      · rw [hk, cond_true] at hs
        cases hc : rowCells t' agg ls j with
        | none => rw [hc] at hs; cases hs
        | some cs =>
          rw [hc] at hs
          obtain ⟨v, hv, hz⟩ := bind_go hs
          simp only [Prod.mk.injEq] at hz
          obtain ⟨rfl, rfl⟩ := hz
          obtain ⟨b, us, e1, h2, h3, h4⟩ := row_elem (h.obs _ _ hb) ex hk hc
          obtain ⟨_, h5, _⟩ := Rs.one (g := g) (leaves_ne h3) h2
          obtain ⟨u, hu, hR⟩ := ld_gen hn h5 h4 hv
          exact ⟨rfl, u, _, by simp [execOp, hop, e1, hu], rfl, hR⟩
      · rw [Bool.not_eq_true] at hk
        rw [hk] at hs
        cases hs
    · cases hs
  · cases hs

def iaOk (P : Program) (k : SK) (agg : Bool) (ls : List LK) : Bool := match k with
  | .s => false
  | .by_ => !agg && ls == [.i .u8]
  | .sl e => kindE P e == some (agg, ls) && decide (0 < ls.length)
theorem in_dec {j n : Int} : (decide (0 ≤ j) && decide (j < n)) = true ↔ 0 ≤ j ∧ j < n := by simp
theorem ia_ok (h : Inv C w g s a) {t : TypeId} {k : SK} {agg : Bool} {ls : List LK} {x i : Operand} {x' i' : Opd} (hop : o.op = .indexAddr t x i) (hk : skT C.P t k = true) (hi : iaOk C.P k agg ls = true)
    (hx : okOpd C.P x x' = true) (hj : okOpd C.P i i' = true) (hs : stepO call s d (.ia k agg ls x' i') = some (out, s')) : Pu C w g s a o d out s' := by
  simp only [stepO] at hs
  have ex := ev_ok h hx
  have ei := ev_ok h hj
  split at hs
  · rename_i z e xs kj j hq hn
    rw [hq] at ex
    rw [hn] at ei
    obtain ⟨ei, _⟩ := RV_i ei
    by_cases hkq : skOk k (.sl z e xs) = true
    · rw [hkq, cond_true] at hs
      by_cases hb : 0 ≤ j ∧ j < (xs.length : Int)
      · rw [in_dec.2 hb] at hs
        obtain ⟨rfl, rfl⟩ := go_eq hs
        obtain ⟨ad, c, cs, hu, h1, h2, h3, h4, h5, agg', ls', hke, hok⟩ := RV_sl ex
        cases k <;> simp only [skOk, Bool.false_eq_true, beq_iff_eq] at hkq
        subst hkq
        simp only [iaOk, Bool.and_eq_true, beq_iff_eq, decide_eq_true_eq] at hi
        obtain ⟨hi, hpos⟩ := hi
        rw [hke] at hi
        simp only [Option.some.injEq, Prod.mk.injEq] at hi
        obtain ⟨rfl, rfl⟩ := hi
        simp only [skT, beq_iff_eq] at hk
        obtain ⟨ii, hii, hs, _⟩ := kindE_size hke
        obtain ⟨hlen, _, hel⟩ := Rs.elems hok h5
        have hlt : j.toNat < xs.length := by omega
        have hxj : xs[j.toNat]? = some (xs.getD j.toNat (.b false)) := by simp [List.getD, hlt]
        obtain ⟨hE, hL⟩ := etaC_ok (hok _ (List.mem_of_getElem? hxj)) (hel _ _ hxj)
        rcases h4 with rfl | ⟨ad', rfl, hA, hc⟩
        · exfalso
          simp only [List.length_nil] at hlen
          have := Nat.mul_pos (show 0 < xs.length by omega) hpos
          omega
        · refine ⟨rfl, .pointer (some (ad'.add (j.toNat * ii.size))), _, by simp [execOp, hop, hu, ei, run_ia (elem_eq hk) hii hb.1 hb.2], rfl, ⟨_, _, rfl, .inr ⟨_, rfl, ?_, fun m u hm => ?_⟩, hE, leaves_ne hL⟩⟩
          · have : (ad'.add (j.toNat * ii.size)).block = ad'.block := by unfold Addr.add; split <;> rfl
            rw [this]; exact hA
          · rw [Addr.add_add, hs]
            rw [List.getElem?_take, List.getElem?_drop] at hm
            split at hm
            · exact hc _ u hm
            · cases hm
      · rw [show (decide (0 ≤ j) && decide (j < (xs.length : Int))) = false by rw [Bool.eq_false_iff]; exact fun q => hb (in_dec.1 q)] at hs
        cases hs
    · rw [Bool.not_eq_true] at hkq
      rw [hkq] at hs
      cases hs
  · rename_i z l kj j hq hn
    rw [hq] at ex
    rw [hn] at ei
    obtain ⟨ei, _⟩ := RV_i ei
    by_cases hkq : skOk k (.by_ z l) = true
    · rw [hkq, cond_true] at hs
      by_cases hb : 0 ≤ j ∧ j < (l.length : Int)
      · rw [in_dec.2 hb] at hs
        obtain ⟨rfl, rfl⟩ := go_eq hs
        obtain ⟨ad, c, hu, h1, h2, h3, h4⟩ := RV_by ex
        cases k <;> simp only [skOk, Bool.false_eq_true] at hkq
        simp only [skT] at hk
        obtain ⟨e, ii, he, he8, hii, hs⟩ := bySl_eq hk
        have hlt : j.toNat < l.length := by omega
        have hl : l.getD j.toNat 0 = l[j.toNat] := by simp [List.getD, hlt]
        rcases h4 with h4 | ⟨ad', rfl, hA, hc⟩
        · exfalso
          simp only [List.map_eq_nil_iff] at h4
          subst h4
          simp at hlt
        · refine ⟨rfl, .pointer (some (ad'.add (j.toNat * ii.size))), _, by simp [execOp, hop, hu, ei, run_ia he hii hb.1 hb.2], rfl, ⟨_, [byteV (l.getD j.toNat 0)], rfl, .inr ⟨_, rfl, ?_, fun m u hm => ?_⟩, ⟨[byteV (l.getD j.toNat 0)], [], rfl, ⟨rfl, byte_in _⟩, rfl⟩, ?_⟩⟩
          · have : (ad'.add (j.toNat * ii.size)).block = ad'.block := by unfold Addr.add; split <;> rfl
            rw [this]; exact hA
          · cases m with
            | succ m => simp at hm
            | zero =>
              simp only [List.getElem?_cons_zero, Option.some.injEq] at hm
              subst hm
              rw [Addr.add_add, hs]
              refine hc _ _ ?_
              rw [hl]
              simp [hlt]
          · intro y hy cs
            simp only [List.mem_singleton] at hy
            subst hy
            simp [byteT]
      · rw [show (decide (0 ≤ j) && decide (j < (l.length : Int))) = false by rw [Bool.eq_false_iff]; exact fun q => hb (in_dec.1 q)] at hs
        cases hs
    · rw [Bool.not_eq_true] at hkq
      rw [hkq] at hs
      cases hs
  · rename_i q kj j hq hn
    rw [hq] at ex
    rw [hn] at ei
    obtain ⟨ei, _⟩ := RV_i ei
    split at hs
    · rename_i e t' hb
      by_cases hkq : skOk k t' = true
      · rw [hkq, cond_true] at hs
        split at hs
        · rename_i m hm
          by_cases hjb : 0 ≤ j ∧ j < (m : Int)
          · rw [in_dec.2 hjb] at hs
            obtain ⟨rfl, rfl⟩ := go_eq hs
            have hro := h.obs _ _ hb
            obtain ⟨hml, b, c, hgq, hmc, _⟩ := RO_len hro hm
            obtain ⟨n', us, sz, h3, h4, h5, h6, h7, h8⟩ := hro
            obtain ⟨eg, _⟩ := ex
            have hnm : n' = m := by rw [hm] at h6; simp only [Option.some.injEq] at h6; exact h6.symm
            subst hnm
            have hb' : ∃ b', b = some ⟨b', 0, none⟩ := by
              rcases h3.2 with ⟨e1, e2⟩ | ⟨gg, cap', cur, e1, _⟩
              · omega
              · rw [hgq] at e1; injection e1 with e2; exact ⟨gg, e2⟩
            obtain ⟨b', rfl⟩ := hb'
            have hsz : ∃ e0 ii, C.P.underlying t = some (.slice e0) ∧ C.P.info? e0 = some ii ∧ ii.size = ls.length := by
              cases k <;> simp only [iaOk, Bool.false_eq_true, Bool.and_eq_true, beq_iff_eq] at hi
              · obtain ⟨e0, ii, he, _, hii, hs1⟩ := bySl_eq (by simpa [skT] using hk)
                exact ⟨e0, ii, he, hii, by rw [hs1, hi.2]; rfl⟩
              · rename_i e0
                simp only [skT, beq_iff_eq] at hk
                obtain ⟨ii, hii, hs1, _⟩ := kindE_size hi.1
                exact ⟨e0, ii, elem_eq hk, hii, hs1⟩
            obtain ⟨e0, ii, he0, hii, hs1⟩ := hsz
            refine ⟨rfl, .pointer (some ⟨b', j.toNat * ls.length, none⟩), _, ?_, rfl, ⟨b', n', c, hgq, by omega, by simp, ?_⟩⟩
            · have := run_ia (P := C.P) (w := w) he0 hii (ad := ⟨b', 0, none⟩) (n := n') (c := c) (k := kj) hjb.1 hjb.2
              rw [add_pl, Nat.zero_add, hs1] at this
              simp [execOp, hop, eg, hgq, ei, this]
            · cases k <;> simp only [iaOk, Bool.false_eq_true, Bool.and_eq_true, beq_iff_eq, Bool.not_eq_true'] at hi
              · exact hi
              · exact hi.1
          · rw [show (decide (0 ≤ j) && decide (j < (m : Int))) = false by rw [Bool.eq_false_iff]; exact fun q => hjb (in_dec.1 q)] at hs
            cases hs
        · cases hs
      · rw [Bool.not_eq_true] at hkq
        rw [hkq] at hs
        cases hs
    · cases hs
  · cases hs
theorem ext_ok (h : Inv C w g s a) {x : Operand} {j : Nat} {x' : Opd} (hop : o.op = .extract x j) (hx : okOpd C.P x x' = true) (hs : stepO call s d (.ext x' j) = some (out, s')) : Pu C w g s a o d out s' := by
  simp only [stepO] at hs
  have ex := ev_ok h hx
  split at hs
  · rename_i vs hq
    obtain ⟨v, hv, hz⟩ := bind_go hs
    simp only [Prod.mk.injEq] at hz
    obtain ⟨rfl, rfl⟩ := hz
    rw [hq] at ex
    obtain ⟨us, e, h1⟩ := ex
    obtain ⟨u, hu, hR⟩ := RVs.at_ h1 hv
    have hu' : us[j]? = some u := by simpa using hu
    exact ⟨rfl, u, _, by simp [execOp, hop, e, Instr.extract, hu'], rfl, hR⟩
  · cases hs
theorem mkf_ok (h : Inv C w g s a) {f : FuncId} {caps : Array Operand} {ys : List Opd} (hop : o.op = .makeFunc (.func f) #[] caps) (hx : okOpds C.P caps.toList ys = true) (hs : stepO call s d (.mkf f ys) = some (out, s')) : Pu C w g s a o d out s' := by
  obtain ⟨rfl, rfl⟩ := go_eq hs
  refine ⟨rfl, .func (.func f) #[] (caps.map a.eval), _, by simp [execOp, hop, Instr.makeFunc], rfl, ⟨_, rfl, ?_⟩⟩
  have := evs_ok h hx
  simpa using this
end
end Go.Proofs.Av
end
section
namespace Go.Proofs.Av
open Go.RowKit
section
variable {P : Program} {w : World} {A : Nat → Prop} {g : Nat → Value}
theorem part_gen {t : TypeId} {n : Option Nat} (hn : okN P t n = true) {vs : List V} {us : Array Value} (h : RVs P w A g vs us.toList) {c : Nat} {v : V} (hv : ldV n vs c = some v) :
    ∃ u, (part t us c).run P w = .ok u w ∧ RV P w A g v u := by
  cases n with
  | none =>
    simp only [ldV] at hv
    obtain ⟨u, hu, hR⟩ := RVs.at_ h hv
    simp only [okN, Bool.and_eq_true, Bool.not_eq_true'] at hn
    obtain ⟨d, hd⟩ := Option.isSome_iff_exists.1 hn.1.2
    have hu' : us[c]? = some u := by simpa using hu
    exact ⟨u, by simp [part, run_isAgg hd, hn.1.1, hu'], hR⟩
  | some k =>
    simp only [ldV] at hv
    by_cases hk : c + k ≤ vs.length
    · rw [show decide (c + k ≤ vs.length) = true by simpa using hk, cond_true] at hv
      simp only [Option.some.injEq] at hv
      subst hv
      simp only [okN, Bool.and_eq_true, beq_iff_eq] at hn
      obtain ⟨hagg, hs⟩ := hn
      obtain ⟨d, hd, _⟩ := agg_desc hagg
      obtain ⟨i, hi, his⟩ := Option.map_eq_some_iff.1 hs
      refine ⟨.agg (us.extract c (c + k)), by simp [part, run_isAgg hd, hagg, sizeOf, typeInfo, hi, his], ⟨_, rfl, ?_⟩⟩
      have e : (us.extract c (c + k)).toList = (us.toList.drop c).take k := by simp [List.extract_eq_take_drop]
      rw [e]
      exact RVs.take (RVs.drop h c) k
    · rw [show decide (c + k ≤ vs.length) = false by simpa using hk] at hv
      cases hv
theorem known_cells {v : V} {u : Value} (hk : v.known = true) (h : RV P w A g v u) : u.oneCell' = true ∧ u.cells = #[u] := by
  have e : ∀ {u : Value}, u.oneCell' = true → u.cells = #[u] := by
    intro u hu
    cases u <;> first | rfl | simp [Value.oneCell'] at hu
  have one : u.oneCell' = true := by
    cases v with
    | un => cases hk
    | ag vs => cases hk
    | tp vs => cases hk
    | im t =>
      have ht : ∀ cs, t ≠ .ag cs := by
        rintro cs rfl
        cases hk
      obtain ⟨u', he, h1⟩ := R.one (us := [u]) h ht
      simp only [List.cons.injEq, and_true] at he
      rw [he]; exact h1
    | ip ts => obtain ⟨a, us, rfl, _⟩ := h; rfl
    | rf o c => obtain ⟨b, _, rfl⟩ := h; rfl
    | ow o => obtain ⟨_, a, n, c, rfl⟩ := h; rfl
    | re o k agg ls j c => obtain ⟨b, n, cap, _, _, rfl, _⟩ := h; rfl
    | fn f vs => obtain ⟨us, rfl, _⟩ := h; rfl
  exact ⟨one, e one⟩
theorem cellsOk_RVs {v : V} {u : Value} (hk : v.cellsOk = true) (h : RV P w A g v u) : RVs P w A g v.cells u.cells.toList := by
  cases v with
  | ag vs => obtain ⟨us, rfl, h1⟩ := h; exact h1
  | un => cases hk
  | tp vs => cases hk
  | im t => rw [(known_cells (v := .im t) hk h).2]; exact ⟨u, [], rfl, h, rfl⟩
  | ip ts => rw [(known_cells (v := .ip ts) rfl h).2]; exact ⟨u, [], rfl, h, rfl⟩
  | rf o c => rw [(known_cells (v := .rf o c) rfl h).2]; exact ⟨u, [], rfl, h, rfl⟩
  | ow o => rw [(known_cells (v := .ow o) rfl h).2]; exact ⟨u, [], rfl, h, rfl⟩
  | re o k agg ls j c => rw [(known_cells (v := .re o k agg ls j c) rfl h).2]; exact ⟨u, [], rfl, h, rfl⟩
  | fn f vs => rw [(known_cells (v := .fn f vs) rfl h).2]; exact ⟨u, [], rfl, h, rfl⟩
theorem RVs.set : ∀ {vs : List V} {us : List Value}, RVs P w A g vs us → ∀ (j : Nat) {v : V} {u : Value}, RV P w A g v u → RVs P w A g (vs.set j v) (us.set j u)
  | [], us, h, j, v, u, _ => by simp only [RVs] at h; subst h; simp [RVs]
  | x :: r, us, h, j, v, u, hv => by
    simp only [RVs] at h
    obtain ⟨u0, us', rfl, h2, h3⟩ := h
    cases j with
    | zero => exact ⟨u, us', rfl, hv, h3⟩
    | succ j => exact ⟨u0, us'.set j u, rfl, h2, RVs.set h3 j hv⟩
theorem setCells_len : ∀ (vs : List V) (c : Nat) (ws : List V), (setCells vs c ws).length = vs.length
  | _, _, [] => rfl
  | vs, c, v :: r => by rw [setCells, setCells_len]; simp
/-- Cells laid into cells. -/
def layV : List Value → Nat → List Value → List Value
  | us, _, [] => us
  | us, c, u :: r => layV (us.set c u) (c + 1) r
theorem layV_len : ∀ (us : List Value) (c : Nat) (xs : List Value), (layV us c xs).length = us.length
  | _, _, [] => rfl
  | us, c, v :: r => by rw [layV, layV_len]; simp
theorem RVs.lay : ∀ {ws : List V} {xs : List Value} {vs : List V} {us : List Value} (c : Nat), RVs P w A g vs us → RVs P w A g ws xs → RVs P w A g (setCells vs c ws) (layV us c xs)
  | [], xs, vs, us, c, h, k => by simp only [RVs] at k; subst k; exact h
  | v :: r, xs, vs, us, c, h, k => by
    simp only [RVs] at k
    obtain ⟨u, us', rfl, h2, h3⟩ := k
    exact RVs.lay (c + 1) (h.set c h2) h3
theorem fold_lay : ∀ (xs : List Value) (n off : Nat) (cells : Array Value), ((xs.zipIdx n).foldl (fun cs (c, j) => cs.setIfInBounds (off + j) c) cells).toList = layV cells.toList (off + n) xs
  | [], _, _, _ => rfl
  | x :: r, n, off, cells => by
    simp only [List.zipIdx_cons, List.foldl_cons]
    rw [fold_lay r (n + 1) off]
    simp [layV, Nat.add_assoc]
theorem fill_ok {f : Nat → Option (Nat × Nat)} : ∀ {ps : List (Nat × Operand)} {qs : List (Nat × Nat × Opd)} {e : Env} {ev' : Operand → Value} (_ : partsOk P f ps qs = true) (_ : ∀ x y, okOpd P x y = true → RV P w A g (ev e y) (ev' x))
    {vs ws : List V} {cells : Array Value}, RVs P w A g vs cells.toList → fillT vs (evp e qs) = some ws → ∃ cells', Instr.fill f cells (ps.map fun x => (x.1, ev' x.2)) = some cells' ∧ RVs P w A g ws cells'.toList
  | [], [], e, ev', _, _, vs, ws, cells, h, hf => by
    simp only [evp, fillT, Option.some.injEq] at hf
    subst hf
    exact ⟨cells, rfl, h⟩
  | (j, x) :: r, (off, n, y) :: q, e, ev', hp, he, vs, ws, cells, h, hf => by
    simp only [partsOk, Bool.and_eq_true, beq_iff_eq] at hp
    obtain ⟨⟨hx, hj⟩, hr⟩ := hp
    simp only [evp, fillT] at hf
    by_cases hc : ((ev e y).cellsOk && (ev e y).cells.length == n && decide (off + n ≤ vs.length)) = true
    · rw [hc, cond_true] at hf
      simp only [Bool.and_eq_true, beq_iff_eq, decide_eq_true_eq] at hc
      obtain ⟨⟨hk, hn⟩, hl⟩ := hc
      have hR := cellsOk_RVs hk (he x y hx)
      have l1 := RVs.len hR
      have l2 := RVs.len h
      have hsz : (ev' x).cells.size = n := by rw [← Array.length_toList, l1, hn]
      have hlay := RVs.lay off h hR
      rw [show layV cells.toList off (ev' x).cells.toList = (((ev' x).cells.toList.zipIdx 0).foldl (fun cs (c, j) => cs.setIfInBounds (off + j) c) cells).toList from (fold_lay _ 0 off cells).symm] at hlay
      obtain ⟨c', h1, h2⟩ := fill_ok hr he hlay hf
      refine ⟨c', ?_, h2⟩
      simp only [List.map_cons, Instr.fill, hj]
      have hle : ¬ (off + (ev' x).cells.size > cells.size) := by
        rw [hsz]
        rw [← Array.length_toList, l2]
        omega
      rw [if_neg (by simp [hsz]; omega)]
      rw [← h1]
      congr 1
      rw [← Array.foldl_toList, Array.toList_zipIdx]
    · rw [Bool.not_eq_true] at hc
      rw [hc] at hf
      cases hf
  | [], _ :: _, _, _, hp, _, _, _, _, _, _ => by simp [partsOk] at hp
  | _ :: _, [], _, _, hp, _, _, _, _, _, _ => by simp [partsOk] at hp
theorem lits_RVs : ∀ {zs : List T} {us : List Value}, slsOk P zs = true → litsOk zs us = true → RVs P w A g (zs.map .im) us
  | [], [], _, _ => rfl
  | z :: zs, us, hs, h => by
    unfold litsOk at h
    split at h
    · cases zs <;> simp_all
    · rename_i z' e xs ts vs heq
      cases heq
      simp only [slsOk, Bool.and_eq_true] at hs
      simp only [Bool.and_eq_true, List.isEmpty_iff] at h
      obtain ⟨⟨hz, rfl⟩, h2⟩ := h
      exact ⟨_, _, rfl, nil_R hs.1 _, lits_RVs hs.2 h2⟩
    · rename_i t ts v vs _ heq
      cases heq
      simp only [Bool.and_eq_true] at h
      have hs' : slsOk P zs = true := by
        unfold slsOk at hs
        split at hs <;> simp_all
      exact ⟨_, _, rfl, lit_R h.1, lits_RVs hs' h.2⟩
    · cases h
  | [], _ :: _, _, h => by simp [litsOk] at h
theorem zero_ok {t : TypeId} {zs : List T} (h : zeroOk P t zs = true) : ∃ i z, P.info? t = some i ∧ i.zero = some z ∧ RVs P w A g (zs.map .im) z.cells.toList := by
  unfold zeroOk at h
  rw [Bool.and_eq_true] at h
  obtain ⟨h1, h2⟩ := h
  split at h2
  · rename_i v hv
    obtain ⟨i, hi, hz⟩ := Option.map_eq_some_iff.1 hv
    exact ⟨i, v, hi, hz, lits_RVs h1 h2⟩
  · cases h2
end
section
variable {C : Ctx} {w : World} {g : Nat → Value} {s s' : S} {a : Act} {o : Oper} {d : Option Nat} {out : Out} {call : FuncId → List V → Obs → Option Res}
theorem fld_ok (h : Inv C w g s a) {t : TypeId} {f off : Nat} {n : Option Nat} {x : Operand} {x' : Opd} (hop : o.op = .field t x f) {ft : TypeId} (hf : fieldOff C.P t f = some (off, ft)) (hn : okN C.P ft n = true) (hx : okOpd C.P x x' = true)
    (hs : stepO call s d (.fld off n x') = some (out, s')) : Pu C w g s a o d out s' := by
  simp only [stepO] at hs
  have ex := ev_ok h hx
  split at hs
  · rename_i vs hq
    obtain ⟨v, hv, hz⟩ := bind_go hs
    simp only [Prod.mk.injEq] at hz
    obtain ⟨rfl, rfl⟩ := hz
    rw [hq] at ex
    obtain ⟨us, e, h1⟩ := ex
    obtain ⟨u, hu, hR⟩ := part_gen hn h1 hv
    obtain ⟨fs, fd, h2, h3, rfl, rfl⟩ := fieldOff_eq hf
    exact ⟨rfl, u, _, by simp [execOp, hop, e, Instr.field, run_underlying h2, h3, asAgg, hu], rfl, hR⟩
  · cases hs
theorem ixa_ok (h : Inv C w g s a) {t e : TypeId} {n : Option Nat} {sz len : Nat} {x i : Operand} {x' i' : Opd} (hop : o.op = .index t x i) (ht : C.P.underlying t = some (.array len e)) (hz : sizeT C.P e = some sz) (hn : okN C.P e n = true) (hx : okOpd C.P x x' = true) (hi : okOpd C.P i i' = true)
    (hs : stepO call s d (.ixa n sz len x' i') = some (out, s')) : Pu C w g s a o d out s' := by
  simp only [stepO] at hs
  have ex := ev_ok h hx
  have ei := ev_ok h hi
  split at hs
  · rename_i vs k j hq hj
    by_cases hb : 0 ≤ j ∧ j < (len : Int)
    · rw [show (decide (0 ≤ j) && decide (j < (len : Int))) = true by simpa using hb] at hs
      simp only [ifB] at hs
      obtain ⟨v, hv, hz'⟩ := bind_go hs
      simp only [Prod.mk.injEq] at hz'
      obtain ⟨rfl, rfl⟩ := hz'
      rw [hq] at ex
      rw [hj] at ei
      obtain ⟨ei, _⟩ := RV_i ei
      obtain ⟨us, e1, h1⟩ := ex
      obtain ⟨u, hu, hR⟩ := part_gen hn h1 hv
      obtain ⟨ti, hti, htz⟩ := Option.map_eq_some_iff.1 hz
      have hsz : ∀ w2, (sizeOf e).run C.P w2 = .ok sz w2 := fun w2 => by simp [sizeOf, typeInfo, hti, htz]
      exact ⟨rfl, u, _, by simp [execOp, hop, e1, ei, Instr.index, asIntOf, run_underlying ht, hb.1, hb.2, hsz, hu], rfl, hR⟩
    · rw [show (decide (0 ≤ j) && decide (j < (len : Int))) = false by rw [Bool.eq_false_iff]; simpa using hb] at hs
      cases hs
  · cases hs
theorem bld_ok (h : Inv C w g s a) {t : TypeId} {zs : List T} {parts : Array (Nat × Operand)} {ps : List (Nat × Nat × Opd)} (hop : o.op = .build t parts) (hz : zeroOk C.P t zs = true) {f : Nat → Option (Nat × Nat)} (hf : placesOf C.P t = some f) (hp : partsOk C.P f parts.toList ps = true)
    (hs : stepO call s d (.bld zs ps) = some (out, s')) : Pu C w g s a o d out s' := by
  simp only [stepO] at hs
  obtain ⟨vs, hv, hq⟩ := bind_go hs
  simp only [Prod.mk.injEq] at hq
  obtain ⟨rfl, rfl⟩ := hq
  obtain ⟨i, z, hi, hzv, hR⟩ := zero_ok (w := w) (A := C.Al s.obs g) (g := g) hz
  obtain ⟨cells, h1, h2⟩ := fill_ok (ev' := a.eval) hp (fun x y hxy => ev_ok h hxy) hR hv
  refine ⟨rfl, .agg cells, _, ?_, rfl, ⟨_, rfl, h2⟩⟩
  have hb : C.P.built t ((parts.map fun x => (x.1, a.eval x.2)).toList) = some cells := by
    unfold placesOf at hf
    unfold Program.built
    simp only [hi, Array.toList_map]
    split at hf
    · rename_i fs hfs
      obtain ⟨l, hl, rfl⟩ := Option.map_eq_some_iff.1 hf
      simp only [hfs, hzv, hl]
      exact h1
    · rename_i k e hfs
      obtain ⟨ie, hie, rfl⟩ := Option.map_eq_some_iff.1 hf
      simp only [hfs, hzv, hie]
      exact h1
    · cases hf
  have := run_build (P := C.P) w t (parts.map fun x => (x.1, a.eval x.2)) cells hb
  simp [execOp, hop, this]
theorem mn_ok (h : Inv C w g s a) {x y : Operand} {x' y' : Opd} {ats : Array TypeId} (hop : o.op = .call { callee := .builtin .min, args := #[x, y], argTypes := ats }) (hx : okOpd C.P x x' = true) (hy : okOpd C.P y y' = true) (hs : stepO call s d (.mn x' y') = some (out, s')) : Pu C w g s a o d out s' := by
  simp only [stepO] at hs
  split at hs
  · rename_i k m ky n hm hn
    by_cases hk : (k == ky) = true
    · rw [hk, cond_true] at hs
      simp only [beq_iff_eq] at hk
      subst hk
      obtain ⟨rfl, rfl⟩ := go_eq hs
      have ex := ev_ok h hx
      have ey := ev_ok h hy
      rw [hm] at ex
      rw [hn] at ey
      obtain ⟨ex, x1, x2⟩ := RV_i ex
      obtain ⟨ey, y1, y2⟩ := RV_i ey
      refine ⟨rfl, .int k (min m n), _, ?_, rfl, mk_i (by omega) (by omega)⟩
      have : (if n < m then n else m) = min m n := by split <;> omega
      simp [execOp, hop, ex, ey, resolve, invoke, builtin, Builtin.min_, Builtin.min2, this]
    · rw [Bool.not_eq_true] at hk
      rw [hk] at hs
      cases hs
  · cases hs
theorem mx_ok (h : Inv C w g s a) {x y : Operand} {x' y' : Opd} {ats : Array TypeId} (hop : o.op = .call { callee := .builtin .max, args := #[x, y], argTypes := ats }) (hx : okOpd C.P x x' = true) (hy : okOpd C.P y y' = true) (hs : stepO call s d (.mx x' y') = some (out, s')) : Pu C w g s a o d out s' := by
  simp only [stepO] at hs
  split at hs
  · rename_i k m ky n hm hn
    by_cases hk : (k == ky) = true
    · rw [hk, cond_true] at hs
      simp only [beq_iff_eq] at hk
      subst hk
      obtain ⟨rfl, rfl⟩ := go_eq hs
      have ex := ev_ok h hx
      have ey := ev_ok h hy
      rw [hm] at ex
      rw [hn] at ey
      obtain ⟨ex, x1, x2⟩ := RV_i ex
      obtain ⟨ey, y1, y2⟩ := RV_i ey
      refine ⟨rfl, .int k (max m n), _, ?_, rfl, mk_i (by omega) (by omega)⟩
      have : (if m < n then n else m) = max m n := by split <;> omega
      simp [execOp, hop, ex, ey, resolve, invoke, builtin, Builtin.max_, Builtin.max2, this]
    · rw [Bool.not_eq_true] at hk
      rw [hk] at hs
      cases hs
  · cases hs
end
end Go.Proofs.Av
end
section
namespace Go.Proofs.Av
open Go.RowKit
section
variable {P : Program} {w : World} {A : Nat → Prop} {g : Nat → Value}
theorem run_equal (t : TypeId) (x y : Value) {r : Bool} (h : (Op.equalIn 10000 t x y).run P w = .ok r w) : (Op.equal t x y).run P w = .ok r w := h
theorem eq_nil_sl' {t e : TypeId} (ht : P.underlying t = some (.slice e)) (ad : Option Addr) (n c dp : Nat) :
    (Op.equalIn (dp + 1) t (.slice ad n c) (.slice none 0 0)).run P w = .ok ad.isNone w ∧ (Op.equalIn (dp + 1) t (.slice none 0 0) (.slice ad n c)).run P w = .ok ad.isNone w := by
  constructor
  · cases ad <;> simp [Op.equalIn, run_underlying ht]
  · cases ad <;> simp [Op.equalIn, run_underlying ht]
theorem eq_nil_pt' {t e : TypeId} (ht : P.underlying t = some (.pointer e)) (ad : Option Addr) (dp : Nat) :
    (Op.equalIn (dp + 1) t (.pointer ad) (.pointer none)).run P w = .ok ad.isNone w ∧ (Op.equalIn (dp + 1) t (.pointer none) (.pointer ad)).run P w = .ok ad.isNone w := by
  constructor
  · cases ad <;> simp [Op.equalIn, run_underlying ht]
  · cases ad <;> simp [Op.equalIn, run_underlying ht]
theorem eq_nil_sl {t e : TypeId} (ht : P.underlying t = some (.slice e)) (ad : Option Addr) (n c : Nat) :
    (Op.equalIn 10000 t (.slice ad n c) (.slice none 0 0)).run P w = .ok ad.isNone w ∧ (Op.equalIn 10000 t (.slice none 0 0) (.slice ad n c)).run P w = .ok ad.isNone w := eq_nil_sl' ht ad n c 9999
theorem eq_nil_pt {t e : TypeId} (ht : P.underlying t = some (.pointer e)) (ad : Option Addr) :
    (Op.equalIn 10000 t (.pointer ad) (.pointer none)).run P w = .ok ad.isNone w ∧ (Op.equalIn 10000 t (.pointer none) (.pointer ad)).run P w = .ok ad.isNone w := eq_nil_pt' ht ad 9999
theorem binOp_eq (op : BinOp) (eq : Bool) (he : isEq eq op = true) (t : TypeId) (x y : Value) (hx : (∃ a n c, x = .slice a n c) ∨ (∃ a, x = .pointer a) ∨ ∃ a, x = .agg a) (hy : (∃ a n c, y = .slice a n c) ∨ (∃ a, y = .pointer a) ∨ ∃ a, y = .agg a) {r : Bool} (h : (Op.equal t x y).run P w = .ok r w) :
    (binOp op t x y).run P w = .ok (.bool (bif eq then r else !r)) w := by
  cases op <;> cases eq <;> simp only [isEq, Bool.not_true, Bool.not_false, Bool.false_eq_true] at he
  · have : binOp .eql t x y = (do pure (.bool (← Op.equal t x y))) := by
      rcases hx with ⟨_, _, _, rfl⟩ | ⟨_, rfl⟩ | ⟨_, rfl⟩ <;> rcases hy with ⟨_, _, _, rfl⟩ | ⟨_, rfl⟩ | ⟨_, rfl⟩ <;> simp only [binOp]
    rw [this]
    simp only [Sem.run_bind, h, Result.andThen, Sem.run_pure, cond_true]
  · have : binOp .neq t x y = (do pure (.bool (!(← Op.equal t x y)))) := by
      rcases hx with ⟨_, _, _, rfl⟩ | ⟨_, rfl⟩ | ⟨_, rfl⟩ <;> rcases hy with ⟨_, _, _, rfl⟩ | ⟨_, rfl⟩ | ⟨_, rfl⟩ <;> simp only [binOp]
    rw [this]
    simp only [Sem.run_bind, h, Result.andThen, Sem.run_pure, cond_false]
/-- Is the slice nil, as the evaluator sees it. -/
theorem nilT_ok {t : T} {u : Value} {r : Bool} (h : RV P w A g (.im t) u) (hr : nilT t = some r) : ∃ ad n c, u = .slice ad n c ∧ ad.isNone = r := by
  cases t <;> simp only [nilT, reduceCtorEq] at hr
  · rename_i z l
    obtain ⟨ad, c, hu, h1, h2, h3, h4⟩ := RV_by h
    refine ⟨ad, _, c, hu, ?_⟩
    cases l with
    | nil =>
      simp only [List.isEmpty_nil, ifB] at hr
      cases z with
      | false => cases hr
      | true => simp only [Option.some.injEq] at hr; subst hr; rw [(h3 rfl).1]; rfl
    | cons x l =>
      simp only [List.isEmpty_cons, ifB, Option.some.injEq] at hr
      subst hr
      rcases h4 with h4 | ⟨a', rfl, _⟩
      · simp at h4
      · rfl
  · rename_i z e xs
    obtain ⟨ad, c, cs, hu, h1, h2, h3, h4, h5, agg, ls, hke, hok⟩ := RV_sl h
    refine ⟨ad, _, c, hu, ?_⟩
    cases xs with
    | nil =>
      simp only [List.isEmpty_nil, ifB] at hr
      cases z with
      | false => cases hr
      | true => simp only [Option.some.injEq] at hr; subst hr; rw [(h3 rfl).1]; rfl
    | cons x l =>
      simp only [List.isEmpty_cons, ifB, Option.some.injEq] at hr
      subst hr
      obtain ⟨_, _, _, hpos, _⟩ := kindE_size hke
      obtain ⟨hl, _⟩ := Rs.elems hok h5
      rcases h4 with h4 | ⟨a', rfl, _⟩
      · subst h4
        simp only [List.length_nil, List.length_cons] at hl
        have := Nat.mul_pos (show 0 < l.length + 1 by omega) hpos
        omega
      · rfl
theorem nilRow_ok {q : Nat} {e : TypeId} {t : T} {r : Bool} (h : RO P w A g q (.row e t)) (hr : nilT t = some r) : ∃ ad n c, g q = .slice ad n c ∧ ad.isNone = r := by
  obtain ⟨n, us, sz, h1, h2, h3, h4, h5, h6⟩ := h
  have key : (r = false ∧ 0 < n) := by
    cases t <;> simp only [nilT, reduceCtorEq] at hr
    · rename_i z l
      cases l with
      | nil =>
        simp only at h6
        simp [ifB, h6.1] at hr
      | cons x l =>
        simp only [List.isEmpty_cons, ifB, Option.some.injEq] at hr
        simp only [tlen, Option.some.injEq, List.length_cons] at h4
        exact ⟨hr.symm, by omega⟩
    · rename_i z e' xs
      cases xs with
      | nil =>
        simp only at h6
        simp [ifB, h6.1] at hr
      | cons x l =>
        simp only [List.isEmpty_cons, ifB, Option.some.injEq] at hr
        simp only [tlen, Option.some.injEq, List.length_cons] at h4
        exact ⟨hr.symm, by omega⟩
  rcases h1.2 with ⟨e1, e2⟩ | ⟨gg, cap, cur, e1, _⟩
  · omega
  · exact ⟨_, _, _, e1, key.1.symm ▸ rfl⟩
theorem nilS_eq {x : Operand} (h : isNilS x = true) : x = .const (.slice none 0 0) := by
  unfold isNilS at h
  split at h
  · rfl
  · cases h
theorem nilP_eq {x : Operand} (h : isNilP x = true) : x = .const (.pointer none) := by
  unfold isNilP at h
  split at h
  · rfl
  · cases h
theorem ptr_eq {t : TypeId} (h : isPtr P t = true) : ∃ e, P.underlying t = some (.pointer e) := by
  unfold isPtr at h
  split at h
  · rename_i e he; exact ⟨e, he⟩
  · cases h
theorem guard_any (op : BinOp) (t : TypeId) (x y : Operand) (u v : Value) (hu : (∃ a n c, u = .slice a n c) ∨ ∃ a, u = .pointer a) : (eqGuard op t x y u v).run P w = .ok () w := by
  rcases hu with ⟨_, _, _, rfl⟩ | ⟨_, rfl⟩ <;> cases op <;> simp [eqGuard]
end
section
variable {C : Ctx} {w : World} {g : Nat → Value} {s s' : S} {a : Act} {o : Oper} {d : Option Nat} {out : Out} {call : FuncId → List V → Obs → Option Res}
theorem eqn_ok (h : Inv C w g s a) {op : BinOp} {t ty : TypeId} {eq : Bool} {x y : Operand} {z : Opd} (hop : o.op = .binOp op t x y ty) (he : isEq eq op = true) (ht : (elemT? C.P t).isSome = true)
    (hz : ((isNilS y && okOpd C.P x z) || (isNilS x && okOpd C.P y z)) = true) (hs : stepO call s d (.eqn eq z) = some (out, s')) : Pu C w g s a o d out s' := by
  obtain ⟨e, he'⟩ := Option.isSome_iff_exists.1 ht
  have hu := elem_eq he'
  have main : ∀ xx : Operand, okOpd C.P xx z = true → ∃ r, out = .nx ∧ s' = s.put d (.im (.b (bif eq then r else !r))) ∧ ∃ ad n c, a.eval xx = .slice ad n c ∧ ad.isNone = r := by
    intro xx hxx
    have ex := ev_ok h hxx
    simp only [stepO] at hs
    split at hs
    · rename_i t' hq
      obtain ⟨r, hr, hq'⟩ := bind_go hs
      simp only [Prod.mk.injEq] at hq'
      rw [hq] at ex
      exact ⟨r, hq'.1, hq'.2, nilT_ok ex hr⟩
    · rename_i q hq
      split at hs
      · rename_i e t' hb
        obtain ⟨r, hr, hq'⟩ := bind_go hs
        simp only [Prod.mk.injEq] at hq'
        rw [hq] at ex
        obtain ⟨ad, n, c, h1, h2⟩ := nilRow_ok (h.obs _ _ hb) hr
        exact ⟨r, hq'.1, hq'.2, ad, n, c, ex.1.trans h1, h2⟩
      · cases hs
    · cases hs
  rw [Bool.or_eq_true, Bool.and_eq_true, Bool.and_eq_true] at hz
  rcases hz with ⟨hn, hx⟩ | ⟨hn, hx⟩
  · have hn := nilS_eq hn
    subst hn
    obtain ⟨r, rfl, rfl, ad, n, c, h1, rfl⟩ := main x hx
    refine ⟨rfl, _, _, ?_, rfl, mk_b _⟩
    have e1 := binOp_eq op eq he t _ _ (.inl ⟨ad, n, c, rfl⟩) (.inl ⟨none, 0, 0, rfl⟩) (run_equal t _ _ (eq_nil_sl (P := C.P) (w := w) hu ad n c).1)
    have e2 : a.eval (.const (.slice none 0 0)) = .slice none 0 0 := rfl
    simp [execOp, hop, h1, e2, guard_any (P := C.P) (w := w) op t x _ _ _ (.inl ⟨ad, n, c, rfl⟩), e1]
  · have hn := nilS_eq hn
    subst hn
    obtain ⟨r, rfl, rfl, ad, n, c, h1, rfl⟩ := main y hx
    refine ⟨rfl, _, _, ?_, rfl, mk_b _⟩
    have e1 := binOp_eq op eq he t _ _ (.inl ⟨none, 0, 0, rfl⟩) (.inl ⟨ad, n, c, rfl⟩) (run_equal t _ _ (eq_nil_sl (P := C.P) (w := w) hu ad n c).2)
    have e2 : a.eval (.const (.slice none 0 0)) = .slice none 0 0 := rfl
    simp [execOp, hop, h1, e2, guard_any (P := C.P) (w := w) op t _ y _ _ (.inl ⟨none, 0, 0, rfl⟩), e1]
theorem eqp_ok (h : Inv C w g s a) {op : BinOp} {t ty : TypeId} {eq : Bool} {x y : Operand} {z : Opd} (hop : o.op = .binOp op t x y ty) (he : isEq eq op = true) (ht : isPtr C.P t = true)
    (hz : ((isNilP y && okOpd C.P x z) || (isNilP x && okOpd C.P y z)) = true) (hs : stepO call s d (.eqp eq z) = some (out, s')) : Pu C w g s a o d out s' := by
  obtain ⟨e, hu⟩ := ptr_eq ht
  have main : ∀ xx : Operand, okOpd C.P xx z = true → ∃ r, out = .nx ∧ s' = s.put d (.im (.b (bif eq then r else !r))) ∧ ∃ ad, a.eval xx = .pointer ad ∧ ad.isNone = r := by
    intro xx hxx
    have ex := ev_ok h hxx
    simp only [stepO] at hs
    split at hs
    · rename_i hq
      obtain ⟨rfl, rfl⟩ := go_eq hs
      rw [hq] at ex
      simp only [RV, R, List.cons.injEq, and_true] at ex
      exact ⟨true, rfl, by cases eq <;> rfl, none, ex.1, rfl⟩
    · rename_i q c hq
      obtain ⟨rfl, rfl⟩ := go_eq hs
      rw [hq] at ex
      obtain ⟨b, _, h1⟩ := ex
      exact ⟨false, rfl, by cases eq <;> rfl, _, h1, rfl⟩
    · cases hs
  rw [Bool.or_eq_true, Bool.and_eq_true, Bool.and_eq_true] at hz
  rcases hz with ⟨hn, hx⟩ | ⟨hn, hx⟩
  · have hn := nilP_eq hn
    subst hn
    obtain ⟨r, rfl, rfl, ad, h1, rfl⟩ := main x hx
    refine ⟨rfl, _, _, ?_, rfl, mk_b _⟩
    have e1 := binOp_eq op eq he t _ _ (.inr (.inl ⟨ad, rfl⟩)) (.inr (.inl ⟨none, rfl⟩)) (run_equal t _ _ (eq_nil_pt (P := C.P) (w := w) hu ad).1)
    have e2 : a.eval (.const (.pointer none)) = .pointer none := rfl
    simp [execOp, hop, h1, e2, guard_any (P := C.P) (w := w) op t x _ _ _ (.inr ⟨ad, rfl⟩), e1]
  · have hn := nilP_eq hn
    subst hn
    obtain ⟨r, rfl, rfl, ad, h1, rfl⟩ := main y hx
    refine ⟨rfl, _, _, ?_, rfl, mk_b _⟩
    have e1 := binOp_eq op eq he t _ _ (.inr (.inl ⟨none, rfl⟩)) (.inr (.inl ⟨ad, rfl⟩)) (run_equal t _ _ (eq_nil_pt (P := C.P) (w := w) hu ad).2)
    have e2 : a.eval (.const (.pointer none)) = .pointer none := rfl
    simp [execOp, hop, h1, e2, guard_any (P := C.P) (w := w) op t _ y _ _ (.inr ⟨none, rfl⟩), e1]
/-- The bytes of a slice that is read, or of a row. -/
theorem byOf_ok (h : Inv C w g s a) {x : Operand} {x' : Opd} (hx : okOpd C.P x x' = true) {l : List UInt8} (hl : byOf s.obs (ev s.env x') = some l) :
    ∃ ad c, a.eval x = .slice ad l.length c ∧ l.length ≤ maxLen ∧ ∀ j u, (l.map byteV)[j]? = some u → ∃ b, ad = some b ∧ w.cell? (b.add j) = some u := by
  have ex := ev_ok h hx
  unfold byOf at hl
  split at hl
  · rename_i z l' hq
    simp only [Option.some.injEq] at hl
    subst hl
    rw [hq] at ex
    obtain ⟨ad, c, hu, h1, h2, h3, h4⟩ := RV_by ex
    refine ⟨ad, c, hu, by omega, fun j u hj => ?_⟩
    rcases h4 with h4 | ⟨b, rfl, _, hc⟩
    · rw [h4] at hj; simp at hj
    · exact ⟨b, rfl, hc j u hj⟩
  · rename_i q hq
    split at hl
    · rename_i e z l' hb
      simp only [Option.some.injEq] at hl
      subst hl
      rw [hq] at ex
      have hro := h.obs _ _ hb
      obtain ⟨hml, ad, c, hgq, _⟩ := RO_len hro (n := l'.length) rfl
      obtain ⟨n, us, sz, h3, h4, h5, h6, h7, h8⟩ := hro
      have e := Rs.bytes_eq h7
      subst e
      refine ⟨ad, c, ex.1.trans hgq, hml, fun j u hj => ?_⟩
      rcases h3.2 with ⟨e1, e2⟩ | ⟨gg, cap, cur, e1, _⟩
      · simp only [tlen, Option.some.injEq] at h6
        have : l' = [] := List.eq_nil_of_length_eq_zero (by omega)
        subst this
        simp at hj
      · have hgq' := hgq
        rw [e1] at hgq
        injection hgq with e2
        exact ⟨⟨gg, 0, none⟩, e2.symm, h3.cells (g := gg) (by rw [e1]; rfl) j u hj⟩
    · cases hl
  · cases hl
theorem toS_ok (h : Inv C w g s a) {t u : TypeId} {x : Operand} {x' : Opd} (hop : o.op = .convert t u x) (ht : isBySl C.P t = true) (hu : isStr C.P u = true) (hx : okOpd C.P x x' = true) (hs : stepO call s d (.toS x') = some (out, s')) : Pu C w g s a o d out s' := by
  simp only [stepO] at hs
  obtain ⟨l, hl, hq⟩ := bind_go hs
  simp only [Prod.mk.injEq] at hq
  obtain ⟨rfl, rfl⟩ := hq
  obtain ⟨ad, c, h1, h2, h3⟩ := byOf_ok h hx hl
  obtain ⟨e, i, he, he8, _⟩ := bySl_eq ht
  refine ⟨rfl, .string ⟨l.toArray⟩, _, ?_, rfl, mk_s h2⟩
  have hrun : (convert t u (.slice ad l.length c)).run C.P w = .ok (.string ⟨l.toArray⟩) w := by
    cases l with
    | nil =>
      cases ad with
      | none => simp [convert, run_underlying he, run_underlying he8, run_underlying (isStr_eq hu), Conv.bytesToString]; rfl
      | some b =>
        have := run_convert_bytes_back (P := C.P) w t u e b c [] he he8 (isStr_eq hu) (fun j hj => by simp at hj)
        simpa using this
    | cons b0 l0 =>
      obtain ⟨b, rfl, _⟩ := h3 0 (byteV b0) rfl
      exact run_convert_bytes_back (P := C.P) w t u e b c (b0 :: l0) he he8 (isStr_eq hu) (fun j hj => by
        obtain ⟨b', hb', hc⟩ := h3 j (byteV (b0 :: l0)[j]) (by rw [List.getElem?_map, List.getElem?_eq_getElem hj]; rfl)
        injection hb' with hb'
        subst hb'
        exact hc)
  simp [execOp, hop, h1, hrun]
/-- The fields of two structs, one behind the other. -/
theorem eqs_fields {P : Program} {w : World} {A : Nat → Prop} {g : Nat → Value} : ∀ {fs : List Field} {ls : List LK} {n : Nat} {xs ys : Array Value} {vs ws : List V} {r : Bool} (dp : Nat), eqFieldsOk P n fs ls = true → RVs P w A g vs (xs.toList.drop n) → RVs P w A g ws (ys.toList.drop n) →
    eqLeaves ls vs ws = some r → (Op.eqFields (dp + 1) xs ys fs).run P w = .ok r w
  | [], [], n, xs, ys, vs, ws, r, dp, _, _, _, hr => by
    cases vs <;> cases ws <;> simp [eqLeaves] at hr
    subst hr
    simp [Op.eqFields]
  | f :: fs, l :: ls, n, xs, ys, vs, ws, r, dp, hf, hx, hy, hr => by
    simp only [eqFieldsOk, Bool.and_eq_true, Bool.not_eq_true', beq_iff_eq, beq_eq_false_iff_ne] at hf
    obtain ⟨⟨⟨hname, hoff⟩, hty⟩, hrest⟩ := hf
    match vs, ws, hr, hx, hy with
    | [], _, hr, _, _ => simp [eqLeaves] at hr
    | v0 :: _, [], hr, _, _ => cases v0 <;> simp [eqLeaves] at hr
    | v0 :: vs, w0 :: ws, hr, hx, hy =>
      have hform : ∃ x y, v0 = .im x ∧ w0 = .im y := by
        cases v0 <;> cases w0 <;> simp [eqLeaves] at hr <;> exact ⟨_, _, rfl, rfl⟩
      obtain ⟨x, y, rfl, rfl⟩ := hform
      simp only [eqLeaves] at hr
      simp only [RVs] at hx hy
      obtain ⟨u, us, hu, hux, hus⟩ := hx
      obtain ⟨v, vs', hv, hvy, hvs⟩ := hy
      have hxn : xs[n]? = some u := by
        have : (xs.toList.drop n)[0]? = some u := by rw [hu]; rfl
        simpa [List.getElem?_drop] using this
      have hyn : ys[n]? = some v := by
        have : (ys.toList.drop n)[0]? = some v := by rw [hv]; rfl
        simpa [List.getElem?_drop] using this
      have hus' : us = xs.toList.drop (n + 1) := by
        have : (xs.toList.drop n).drop 1 = us := by rw [hu]; rfl
        rw [List.drop_drop] at this
        exact this.symm
      have hvs'' : vs' = ys.toList.drop (n + 1) := by
        have : (ys.toList.drop n).drop 1 = vs' := by rw [hv]; rfl
        rw [List.drop_drop] at this
        exact this.symm
      obtain ⟨q, hq, hr⟩ := Option.bind_eq_some_iff.1 hr
      obtain ⟨q2, hq2, rfl⟩ := Option.map_eq_some_iff.1 hr
      have ih := eqs_fields dp hrest (hus' ▸ hus) (hvs'' ▸ hvs) hq2
      have key : ∃ dd, P.underlying f.type = some dd ∧ isAggT P f.type = false ∧ (Op.equalIn (dp + 1) f.type u v).run P w = .ok q w := by
        split at hty
        · rename_i k k' hk _
          simp only [beq_iff_eq] at hty
          subst hty
          have hk := ‹P.underlying f.type = some (TypeDesc.int k)›
          cases x <;> cases y <;> simp only [eqLeaf, reduceCtorEq] at hq
          rename_i kx m ky n'
          by_cases hkk : (kx == k && ky == k) = true
          · rw [hkk, cond_true] at hq
            simp only [Option.some.injEq] at hq
            subst hq
            simp only [Bool.and_eq_true, beq_iff_eq] at hkk
            obtain ⟨rfl, rfl⟩ := hkk
            obtain ⟨rfl, _⟩ := RV_i hux
            obtain ⟨rfl, _⟩ := RV_i hvy
            exact ⟨_, hk, by simp [isAggT, hk], run_equalIn_int (P := P) w dp f.type _ _ _ _ hk⟩
          · rw [Bool.not_eq_true] at hkk
            rw [hkk] at hq
            cases hq
        · have hk := ‹P.underlying f.type = some TypeDesc.bool›
          cases x <;> cases y <;> simp only [eqLeaf, reduceCtorEq, Option.some.injEq] at hq
          subst hq
          have e1 := RV_b hux
          have e2 := RV_b hvy
          subst e1 e2
          exact ⟨_, hk, by simp [isAggT, hk], run_equalIn_bool' (P := P) w dp f.type _ _ hk⟩
        · have hk := ‹P.underlying f.type = some TypeDesc.string›
          cases x <;> cases y <;> simp only [eqLeaf, reduceCtorEq, Option.some.injEq] at hq
          subst hq
          obtain ⟨rfl, _⟩ := RV_s hux
          obtain ⟨rfl, _⟩ := RV_s hvy
          refine ⟨_, hk, by simp [isAggT, hk], ?_⟩
          rw [run_equalIn_string (P := P) w dp f.type _ _ hk]
          simp
        · cases hty
      obtain ⟨dd, hdd, hagg, heq⟩ := key
      have hp1 : (part f.type xs f.offset).run P w = .ok u w := by simp [part, run_isAgg hdd, hagg, hoff, hxn]
      have hp2 : (part f.type ys f.offset).run P w = .ok v w := by simp [part, run_isAgg hdd, hagg, hoff, hyn]
      simp only [Op.eqFields, Sem.run_ite, Sem.run_bind, hp1, hp2, Result.andThen_ok, heq, ih, Sem.run_pure]
      rw [if_pos hname]
      cases q <;> rfl
  | [], _ :: _, _, _, _, _, _, _, _, hf, _, _, _ => by simp [eqFieldsOk] at hf
  | _ :: _, [], _, _, _, _, _, _, _, hf, _, _, _ => by simp [eqFieldsOk] at hf
end
end Go.Proofs.Av
end
