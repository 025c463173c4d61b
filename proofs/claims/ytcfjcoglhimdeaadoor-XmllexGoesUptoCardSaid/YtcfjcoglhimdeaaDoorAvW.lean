/- Operations that make or write memory. -/
import Derived.Test.YtcfjcoglhimdeaaDoorAvM
import Derived.Laws.IdiomCopy
import Derived.Laws.CopyRow
import Derived.Maps.AppendAt
import Derived.Laws.IdiomStrings
set_option linter.unusedSimpArgs false
set_option linter.unusedVariables false
section
namespace Go.Proofs.Av
open Go.RowKit
section
variable {C : Ctx} {w w' : World} {g g' : Nat → Value} {s s' : S} {a : Act} {o : Oper} {d : Option Nat} {out : Out} {call : FuncId → List V → Obs → Option Res}

/-- The operation's end: a value, or none; the state behind it. -/
def St' (C : Ctx) (w : World) (a : Act) (o : Oper) (out : Out) (s' : S) : Prop :=
  out = .nx ∧ ∃ n w', (execOp a.eval o).run C.P w = .ok n w' ∧ ((∃ u, n = .value u ∧ InvE C w' s' (a.put o.dst u)) ∨ (n = .skip ∧ InvE C w' s' (a.put o.dst undef)))
theorem Pu.st (h : Inv C w g s a) (hd : ∀ t, d = some t → t < C.nt) (hdd : o.dst = d) (k : Pu C w g s a o d out s') : St' C w a o out s' := by
  obtain ⟨rfl, u, v, h1, rfl, h2⟩ := k
  exact ⟨rfl, .value u, w, h1, .inl ⟨u, rfl, g, by rw [hdd]; exact h.put hd h2⟩⟩
theorem nid_le (d : Option Nat) : 1000 ≤ nid d := by unfold nid; omega
theorem heap_alloc (w : World) (x : Obj) (b : Nat) (h : b < w.heap.size) : (w.alloc x).heap[b]? = w.heap[b]? := heap_alloc_old w x b h
theorem newIn_eq {s s' : S} {l : Obs} {d : Option Nat} {x : Ob} {v : V} {out : Out} (h : s.newIn l d x v = some (out, s')) : s.free (nid d) = true ∧ out = .nx ∧ s' = S.put ⟨s.env, (nid d, x) :: l⟩ d v := by
  unfold S.newIn at h
  by_cases hf : s.free (nid d) = true
  · rw [hf, cond_true] at h
    obtain ⟨h1, h2⟩ := go_eq h
    exact ⟨hf, h1, h2⟩
  · rw [Bool.not_eq_true] at hf
    rw [hf] at h
    cases h
theorem new_eq {s s' : S} {d : Option Nat} {x : Ob} {v : V} {out : Out} (h : s.new d x v = some (out, s')) : s.free (nid d) = true ∧ out = .nx ∧ s' = S.put ⟨s.env, (nid d, x) :: s.obs⟩ d v := newIn_eq h
theorem ids_ev {id : Nat} (hf : s.free id = true) (y : Opd) : ∀ p ∈ (ev s.env y).ids, p ≠ id := by
  cases y with
  | t n => exact (free_env hf).1 n
  | c x => intro p hp; simp [ev, V.ids] at hp
  | f k => intro p hp; simp [ev, V.ids, V.idsL] at hp
theorem ids_cells (v : V) : ∀ p ∈ V.idsL v.cells, p ∈ v.ids := by
  intro p hp
  cases v <;> simp_all [V.cells, V.idsL, V.ids]
theorem ids_im (zs : List T) : V.idsL (zs.map .im) = [] := by
  induction zs with
  | nil => rfl
  | cons z r ih => simp [V.idsL, V.ids, ih]
/-- A variable of the call's own, in new memory. -/
theorem Inv.box (h : Inv C w g s a) {id : Nat} (hid : 1000 ≤ id) (hf : s.free id = true) {vs : List V} {us : Array Value} {e : TypeId} (hids : ∀ p ∈ V.idsL vs, p ≠ id) (hv : RVs C.P w (C.Al s.obs g) g vs us.toList) :
    Inv C (w.alloc (.cells us e)) (fun o => if o = id then .pointer (some ⟨w.heap.size, 0, none⟩) else g o) ⟨s.env, (id, .box vs) :: s.obs⟩ a := by
  refine h.change (x := .box vs) (dead := fun _ => False) hid hf (fun p y hp => ?_) (fun b hb _ => heap_alloc w _ b hb) rfl rfl rfl (by simp) (fun b hb => ?_) (fun H => ?_)
  · rw [obAt_cons] at hp
    split at hp
    · rename_i e; simp only [Option.some.injEq] at hp; exact .inl ⟨e.symm, hp.symm⟩
    · rename_i e; exact .inr ⟨fun q => e q.symm, fun q => q, hp⟩
  · simp only [blk, Option.some.injEq] at hb
    exact .inl (by omega)
  · exact ⟨w.heap.size, us, e, by simp, heap_alloc_new w _, RVs.keep H vs us.toList (fun p hp => if_neg (hids p hp)) hv⟩
theorem al_ok (h : Inv C w g s a) {t : TypeId} {zs : List T} (hd : ∀ t, d = some t → t < C.nt) (hdd : o.dst = d) (hop : o.op = .alloc t) (hz : zeroOk C.P t zs = true) (hs : stepO call s d (.al zs) = some (out, s')) : St' C w a o out s' := by
  obtain ⟨hf, rfl, rfl⟩ := new_eq hs
  obtain ⟨i, z, hi, hzv, hR⟩ := zero_ok (w := w) (A := C.Al s.obs g) (g := g) hz
  have hb := h.box (nid_le d) hf (e := t) (fun p hp => by rw [ids_im] at hp; cases hp) hR
  refine ⟨rfl, .value (.pointer (some ⟨w.heap.size, 0, none⟩)), _, ?_, .inl ⟨_, rfl, _, by rw [hdd]; exact hb.put hd ⟨w.heap.size, by simp, rfl⟩⟩⟩
  simp [execOp, hop, Instr.alloc, zeroValue, typeInfo, hi, hzv, newVar, newRow]
theorem bx_ok (h : Inv C w g s a) {t : TypeId} {x : Operand} {x' : Opd} (hd : ∀ t, d = some t → t < C.nt) (hdd : o.dst = d) (hop : o.op = .box t x) (hx : okOpd C.P x x' = true) (hs : stepO call s d (.bx x') = some (out, s')) : St' C w a o out s' := by
  simp only [stepO] at hs
  by_cases hk : (ev s.env x').cellsOk = true
  · rw [hk, cond_true] at hs
    obtain ⟨hf, rfl, rfl⟩ := new_eq hs
    have hR := cellsOk_RVs hk (ev_ok h hx)
    have hb := h.box (nid_le d) hf (e := t) (fun p hp => ids_ev hf x' p (ids_cells _ p hp)) hR
    refine ⟨rfl, .value (.pointer (some ⟨w.heap.size, 0, none⟩)), _, ?_, .inl ⟨_, rfl, _, by rw [hdd]; exact hb.put hd ⟨w.heap.size, by simp, rfl⟩⟩⟩
    simp [execOp, hop, Instr.box, newVar, newRow]
  · rw [Bool.not_eq_true] at hk
    rw [hk] at hs
    cases hs

/-! ### A store into a variable of the call's own -/
theorem mapM_known {P : Program} {A : Nat → Prop} : ∀ {vs : List V} {us : List Value}, vs.all V.known = true → RVs P w A g vs us → ∀ u ∈ us, u.oneCell' = true
  | [], us, _, h => by simp only [RVs] at h; subst h; simp
  | v :: r, us, hk, h => by
    obtain ⟨u, us', rfl, h2, h3⟩ := h
    simp only [List.all_cons, Bool.and_eq_true] at hk
    intro x hx
    rcases List.mem_cons.1 hx with rfl | hx
    · exact (known_cells hk.1 h2).1
    · exact mapM_known hk.2 h3 x hx
theorem layV_get : ∀ (xs us : List Value) (c j : Nat), (layV us c xs)[j]? = if c ≤ j ∧ j < c + xs.length ∧ j < us.length then xs[j - c]? else us[j]?
  | [], us, c, j => by
    rw [layV, if_neg]
    simp only [List.length_nil]
    omega
  | x :: r, us, c, j => by
    rw [layV, layV_get r (us.set c x) (c + 1) j]
    simp only [List.length_set, List.length_cons]
    by_cases h1 : j = c
    · subst h1
      rw [if_neg (by omega)]
      by_cases h2 : j < us.length
      · rw [if_pos (by omega)]
        simp [h2]
      · rw [if_neg (by omega)]
        rw [List.getElem?_eq_none (by simp; omega), List.getElem?_eq_none (by omega)]
    · by_cases h2 : c + 1 ≤ j ∧ j < c + 1 + r.length ∧ j < us.length
      · rw [if_pos h2, if_pos (by omega)]
        have : j - c = (j - (c + 1)) + 1 := by omega
        rw [this]
        simp
      · rw [if_neg h2, if_neg (by omega), List.getElem?_set_ne (fun e => h1 e.symm)]
theorem layV_eq (us : List Value) (c : Nat) (xs : List Value) (h : c + xs.length ≤ us.length) : layV us c xs = us.take c ++ xs ++ us.drop (c + xs.length) := by
  apply List.ext_getElem?
  intro j
  rw [layV_get, List.append_assoc]
  by_cases h1 : j < c
  · rw [if_neg (by omega), List.getElem?_append_left (by simp; omega), List.getElem?_take, if_pos h1]
  · rw [List.getElem?_append_right (by simp; omega)]
    have e : (us.take c).length = c := by simp; omega
    rw [e]
    by_cases h2 : j < c + xs.length
    · rw [if_pos (by omega), List.getElem?_append_left (by omega)]
    · rw [if_neg (by omega), List.getElem?_append_right (by omega), List.getElem?_drop]
      congr 1
      omega
/-- One object's cells are written. -/
theorem Inv.write (h : Inv C w g s a) {q : Nat} {x y : Ob} (hq : obAt s.obs q = some x) {b : Nat} (hb : blk (g q) = some b) (hw : ∀ k, k < w.heap.size → k ≠ b → w'.heap[k]? = w.heap[k]?) (hos : w'.os = w.os) (ht : w'.tape = w.tape) (ho : w'.output = w.output) (hsz : w.heap.size ≤ w'.heap.size)
    (hro : (∀ k, C.Al s.obs g k → k < w.heap.size → w'.heap[k]? = w.heap[k]? ∧ C.Al (obSet s.obs q y) g k) → RO C.P w' (C.Al (obSet s.obs q y) g) g q y) : Inv C w' g ⟨s.env, obSet s.obs q y⟩ a := by
  have hat : ∀ p z, obAt (obSet s.obs q y) p = some z → (p = q ∧ z = y) ∨ (p ≠ q ∧ obAt s.obs p = some z) := by
    intro p z hp
    rw [obAt_set] at hp
    split at hp
    · rename_i e; rw [hq] at hp; simp only [Option.map, Option.some.injEq] at hp; exact .inl ⟨e, hp.symm⟩
    · rename_i e; exact .inr ⟨e, hp⟩
  have hM : ∀ k, Mb (obSet s.obs q y) g k ↔ Mb s.obs g k := by
    intro k
    constructor
    · rintro ⟨p, z, h1, h2⟩
      rcases hat p z h1 with ⟨rfl, rfl⟩ | ⟨_, h3⟩
      · exact ⟨p, x, hq, h2⟩
      · exact ⟨p, z, h3, h2⟩
    · rintro ⟨p, z, h1, h2⟩
      by_cases hp : p = q
      · subst hp
        exact ⟨p, y, by rw [obAt_set, if_pos rfl, hq]; rfl, h2⟩
      · exact ⟨p, z, by rw [obAt_set, if_neg hp]; exact h1, h2⟩
  have H : ∀ k, C.Al s.obs g k → k < w.heap.size → w'.heap[k]? = w.heap[k]? ∧ C.Al (obSet s.obs q y) g k := by
    rintro k ⟨h1, h2⟩ hk
    refine ⟨hw k hk (fun e => h2 ⟨q, x, hq, by rw [e]; exact hb⟩), h1, fun hm => h2 ((hM k).1 hm)⟩
  have hlt : ∀ p z k, obAt s.obs p = some z → blk (g p) = some k → k < w.heap.size := by
    intro p z k h1 h2
    have := h.obs p z h1
    cases z with
    | box vs =>
      obtain ⟨b', us, e, h3, h4, _⟩ := this
      rw [h3] at h2
      simp only [blk, Option.some.injEq] at h2
      subst h2
      exact (Array.getElem?_eq_some_iff.1 h4).1
    | row e t =>
      obtain ⟨n, us, sz, h3, _⟩ := this
      rcases h3.2 with ⟨e1, _⟩ | ⟨gg, cap, cur, e1, _, e3, _⟩
      · rw [e1] at h2; cases h2
      · rw [e1] at h2
        simp only [blk, Option.some.injEq] at h2
        subst h2
        exact (Array.getElem?_eq_some_iff.1 e3).1
  refine ⟨fun t => RV.mono H (h.env t), fun p z hp => ?_, fun p p' z z' k h1 h2 hne hk => ?_, fun p z k h1 hk => ?_, ?_, h.low, h.size, h.defers⟩
  · rcases hat p z hp with ⟨rfl, rfl⟩ | ⟨hpq, h3⟩
    · exact hro H
    · exact RO.keep H (fun k hk => hw k (hlt p z k h3 hk) (fun e => h.apart p q z x k h3 hq hpq hk (by rw [hb, e]))) (fun _ _ => rfl) rfl (h.obs p z h3)
  · have e1 : ∃ z0, obAt s.obs p = some z0 := by
      rcases hat p z h1 with ⟨rfl, _⟩ | ⟨_, h3⟩
      · exact ⟨x, hq⟩
      · exact ⟨z, h3⟩
    have e2 : ∃ z0, obAt s.obs p' = some z0 := by
      rcases hat p' z' h2 with ⟨rfl, _⟩ | ⟨_, h3⟩
      · exact ⟨x, hq⟩
      · exact ⟨z', h3⟩
    obtain ⟨z0, e1⟩ := e1
    obtain ⟨z1, e2⟩ := e2
    exact h.apart p p' z0 z1 k e1 e2 hne hk
  · rcases hat p z h1 with ⟨rfl, _⟩ | ⟨_, h3⟩
    · exact h.own p x k hq hk
    · exact h.own p z k h3 hk
  · refine ⟨hos.trans h.frame.os, ht.trans h.frame.tape, ho.trans h.frame.output, Nat.le_trans h.frame.size hsz, fun k hk hP => ?_⟩
    rw [hw k (Nat.lt_of_lt_of_le hk h.frame.size) (fun e => ?_)]
    · exact h.frame.block k hk hP
    · rcases h.own q x b hq hb with h6 | h6
      · exact hP (e ▸ h6)
      · omega
end
end Go.Proofs.Av
end
section
namespace Go.Proofs.Av
open Go.RowKit
section
variable {P : Program} {w : World} {A : Nat → Prop} {g : Nat → Value}
theorem bif_some {α : Type} {c : Bool} {x : Option α} {r : α} (h : (bif c then x else none) = some r) : c = true ∧ x = some r := by
  cases c
  · cases h
  · exact ⟨rfl, h⟩
theorem allT_eq : ∀ {vs : List V} {ts : List T}, allT vs = some ts → vs = ts.map .im
  | [], ts, h => by simp only [allT, Option.some.injEq] at h; subst h; rfl
  | v :: r, ts, h => by
    cases v <;> simp only [allT, reduceCtorEq] at h
    obtain ⟨ts', h1, rfl⟩ := Option.map_eq_some_iff.1 h
    rw [allT_eq h1]
    rfl
/-- What lies at a variable's cells is turned. -/
theorem store_run {w : World} {b c n : Nat} {cur : Array Value} {e t : TypeId} {i : TypeInfo} {u : Value} (hb : w.heap[b]? = some (.cells cur e (0, 0))) (hi : P.info? t = some i) (hs : i.size = n) (hn : u.cells.size = n) (hc : c + n ≤ cur.size) (h1 : ∀ x ∈ u.cells.toList, x.oneCell' = true) :
    (Instr.storeAt t (.pointer (some ⟨b, c, none⟩)) u).run P w = .ok () (w.setRow b (layV cur.toList c u.cells.toList).toArray) := by
  have hl : u.cells.toList.length = n := by rw [Array.length_toList, hn]
  have hst := run_storeCells_at P b c e u.cells.toList 0 cur w hb (by simpa [hl] using hc) h1
  rw [layV_eq _ _ _ (by rw [hl, Array.length_toList]; exact hc)]
  have hne : ¬ (u.cells.size ≠ i.size) := by omega
  simp [Instr.storeAt, Instr.sureAddr, storeVar, sizeOf, typeInfo, hi, hne, hst]
end
section
variable {C : Ctx} {w w' : World} {g g' : Nat → Value} {s s' : S} {a : Act} {o : Oper} {d : Option Nat} {out : Out} {call : FuncId → List V → Obs → Option Res}
theorem setRow_heap' (w : World) (b : Nat) (cs : Array Value) (k : Nat) (h : k ≠ b) : (w.setRow b cs).heap[k]? = w.heap[k]? := setRow_other w b k cs h
theorem sto_rf_ok (h : Inv C w g s a) {t : TypeId} {n : Nat} {x y : Operand} {x' y' : Opd} (hd : ∀ t, d = some t → t < C.nt) (hdd : o.dst = d) (hop : o.op = .store t x y) (hx : okOpd C.P x x' = true) (hy : okOpd C.P y y' = true) (ht : sizeT C.P t = some n)
    {q c : Nat} (hq : ev s.env x' = .rf q c) (hs : stepO call s d (.sto n x' y') = some (out, s')) : St' C w a o out s' := by
  simp only [stepO] at hs
  obtain ⟨hk, hs⟩ := bif_some hs
  simp only [Bool.and_eq_true, beq_iff_eq] at hk
  rw [hq] at hs
  simp only at hs
  split at hs
  · rename_i cs hb
    obtain ⟨hc, hs⟩ := bif_some hs
    simp only [decide_eq_true_eq] at hc
    obtain ⟨rfl, rfl⟩ := go_eq hs
    have ex := ev_ok h hx
    rw [hq] at ex
    obtain ⟨b, h1, e1⟩ := ex
    have ey := ev_ok h hy
    have hcok : (ev s.env y').cellsOk = true := by
      have := hk.2
      cases hv : ev s.env y' <;> rw [hv] at this <;> simp_all [V.cells, V.cellsOk]
    have hR := cellsOk_RVs hcok ey
    obtain ⟨b', us, e, h2, h3, h4⟩ := h.obs _ _ hb
    rw [h1] at h2
    injection h2 with h2
    injection h2 with h2
    injection h2 with h2
    subst h2
    obtain ⟨i, hi, his⟩ := Option.map_eq_some_iff.1 ht
    have l1 := RVs.len hR
    have l2 := RVs.len h4
    have hrun := store_run (P := C.P) (c := c) (u := a.eval y) h3 hi his (by rw [← Array.length_toList, l1]; exact hk.1) (by rw [← Array.length_toList, l2]; exact hc) (mapM_known hk.2 hR)
    have hw := h.write (w' := w.setRow b (layV us.toList c (a.eval y).cells.toList).toArray) (y := .box (setCells cs c (ev s.env y').cells)) hb (b := b) (by rw [h1]; rfl) (fun k _ hk => setRow_heap' w b _ k hk) rfl rfl rfl (by simp) (fun H => ?_)
    · refine ⟨rfl, .skip, w.setRow b (layV us.toList c (a.eval y).cells.toList).toArray, ?_, .inr ⟨rfl, g, ?_⟩⟩
      · simp [execOp, hop, e1, hrun]
      · rw [hdd]
        exact hw.put hd trivial
    · refine ⟨b, _, e, h1, setRow_heap w b us _ e _ h3, ?_⟩
      have := RVs.lay c h4 hR
      exact RVs.keep H _ _ (fun _ _ => rfl) (by simpa using this)
  · cases hs

/-! ### Appending -/
theorem joinT_ok {A : Nat → Prop} {P : Program} {k : SK} {t u r : T} (hk : skOk k t = true) (hku : skOk k u = true) (hj : joinT t u = some r) {us vs : List Value} (h : Rs P w A (elemsOf t) us) (h' : Rs P w A (elemsOf u) vs) :
    Rs P w A (elemsOf r) (us ++ vs) ∧ (∀ n m, tlen t = some n → tlen u = some m → tlen r = some (n + m)) ∧
    (match (generalizing := false) r with
      | .sl z e' xs => z = false ∧ (∃ z0 xs0, t = .sl z0 e' xs0) ∧ ∀ agg ls, (∀ z0 xs0, t = .sl z0 e' xs0 → ∀ x ∈ xs0, okElem agg ls x = true) → (∀ z0 xs0, u = .sl z0 e' xs0 → ∀ x ∈ xs0, okElem agg ls x = true) → ∀ x ∈ xs, okElem agg ls x = true
      | .by_ z _ => z = false ∧ ∃ z0 l0, t = .by_ z0 l0
      | _ => False) := by
  cases t <;> cases u <;> simp only [joinT, reduceCtorEq] at hj
  · rename_i z l z' l'
    simp only [Option.some.injEq] at hj
    subst hj
    refine ⟨?_, fun n m h1 h2 => ?_, rfl, _, _, rfl⟩
    · simp only [elemsOf, List.map_append] at h h' ⊢
      exact Rs.append h h'
    · simp only [tlen, Option.some.injEq] at h1 h2 ⊢
      simp [h1, h2]
  · rename_i z e1 xs z' e2 ys
    obtain ⟨he, hj2⟩ := bif_some hj
    clear hj
    simp only [beq_iff_eq] at he
    subst he
    simp only [Option.some.injEq] at hj2
    subst hj2
    refine ⟨Rs.append h h', fun n m h1 h2 => ?_, rfl, ⟨_, _, rfl⟩, fun agg ls q1 q2 x hx => ?_⟩
    · simp only [tlen, Option.some.injEq] at h1 h2 ⊢
      simp [h1, h2]
    · rcases List.mem_append.1 hx with hx | hx
      · exact q1 _ _ rfl x hx
      · exact q2 _ _ rfl x hx
/-- The source of an append: where its elements lie. -/
theorem spread_ok (h : Inv C w g s a) {x : Operand} {x' : Opd} (hx : okOpd C.P x x' = true) {u : T} (hu : spread s.obs (ev s.env x') = some u) {k : SK} (hk : skOk k u = true) (hks : k ≠ .s) :
    ∃ ad n c vs, a.eval x = .slice ad n c ∧ tlen u = some n ∧ n ≤ maxLen ∧ Rs C.P w (C.Al s.obs g) (elemsOf u) vs ∧ (vs = [] ∨ ∃ b, ad = some b ∧ RdAt w b vs) ∧ (∀ v ∈ vs, v.oneCell' = true) ∧
      (match (generalizing := false) u with
        | .sl _ e xs => ∃ agg ls, kindE C.P e = some (agg, ls) ∧ (∀ x ∈ xs, okElem agg ls x = true) ∧ vs.length = n * ls.length
        | _ => vs.length = n) := by
  have ex := ev_ok h hx
  unfold spread at hu
  split at hu
  · rename_i t hq
    simp only [Option.some.injEq] at hu
    subst hu
    rw [hq] at ex
    cases t <;> cases k <;> simp only [skOk, Bool.false_eq_true] at hk
    · exact absurd rfl hks
    · rename_i z l
      obtain ⟨ad, c, h1, h2, h3, h4, h5⟩ := RV_by ex
      refine ⟨ad, l.length, c, l.map byteV, h1, rfl, by omega, Rs.bytes l, ?_, ?_, by simp⟩
      · rcases h5 with h5 | ⟨b, h5, _, h6⟩
        · exact .inl h5
        · exact .inr ⟨b, h5, h6⟩
      · intro v hv
        obtain ⟨b, _, rfl⟩ := List.mem_map.1 hv
        rfl
    · rename_i z e xs _
      obtain ⟨ad, c, cs, h1, h2, h3, h4, h5, h6, agg, ls, h7, h8⟩ := RV_sl ex
      obtain ⟨hl, ho, _⟩ := Rs.elems h8 h6
      refine ⟨ad, xs.length, c, cs, h1, rfl, by omega, h6, ?_, ho, agg, ls, h7, h8, hl⟩
      rcases h5 with h5 | ⟨b, h5, _, h9⟩
      · exact .inl h5
      · exact .inr ⟨b, h5, h9⟩
  · rename_i q hq
    split at hu
    · rename_i e t hb
      simp only [Option.some.injEq] at hu
      subst hu
      rw [hq] at ex
      have hro := h.obs _ _ hb
      obtain ⟨n, us, sz, h3, h4, h5, h6, h7, h8⟩ := hro
      obtain ⟨hml, ad, c, hgq, _⟩ := RO_len (h.obs _ _ hb) h6
      have hrd : us = [] ∨ ∃ b, ad = some b ∧ RdAt w b us := by
        rcases h3.2 with ⟨e1, e2⟩ | ⟨gg, cap, cur, e1, _⟩
        · subst e2
          exact .inl (List.eq_nil_of_length_eq_zero (by have := h3.1; simpa using this))
        · rw [hgq] at e1
          injection e1 with e2
          exact .inr ⟨⟨gg, 0, none⟩, e2, h3.cells (g := gg) (by rw [hgq, e2]; rfl)⟩
      refine ⟨ad, n, c, us, ex.1.trans hgq, h6, hml, h7, hrd, ?_⟩
      cases t <;> cases k <;> simp only [skOk, Bool.false_eq_true] at hk
      · exact absurd rfl hks
      · rename_i z l
        have := Rs.bytes_eq h7
        subst this
        simp only [tlen, Option.some.injEq] at h6
        refine ⟨?_, by simp [h6]⟩
        intro v hv
        obtain ⟨b, _, rfl⟩ := List.mem_map.1 hv
        rfl
      · rename_i z e' xs _
        obtain ⟨_, rfl, agg, ls, h9, h10⟩ := h8
        obtain ⟨hl, ho, _⟩ := Rs.elems h10 h7
        simp only [tlen, Option.some.injEq] at h6
        exact ⟨ho, agg, ls, h9, h10, by rw [hl, h6]⟩
    · cases hu
  · cases hu
theorem appK_eq {P : Program} {k : SK} {e : TypeId} {bytes : Nat} (h : appK P k e bytes = true) : k ≠ .s ∧ ∃ i z, P.info? e = some i ∧ i.bytes = bytes ∧ 0 < bytes ∧ 0 < i.size ∧ i.zero = some z ∧ z.cells.size = i.size := by
  unfold appK at h
  rw [Bool.and_eq_true] at h
  obtain ⟨h1, h2⟩ := h
  refine ⟨fun e => (by subst e; cases h2), ?_⟩
  split at h1
  · rename_i i hi
    simp only [Bool.and_eq_true, beq_iff_eq, decide_eq_true_eq] at h1
    obtain ⟨⟨⟨h3, h4⟩, h5⟩, h6⟩ := h1
    split at h6
    · rename_i z hz
      simp only [beq_iff_eq] at h6
      exact ⟨i, z, hi, h3, h4, h5, hz, h6⟩
    · cases h6
  · cases h1
/-- The machine's append to a row of the call's own. -/
theorem run_app {P : Program} {t ty e : TypeId} {i : TypeInfo} {z : Value} (ht : P.underlying t = some (.slice e)) (hi : P.info? e = some i) (hz : i.zero = some z) (hzs : z.cells.size = i.size) (hsz : 0 < i.size) (hb : 0 < i.bytes) {v : Value} {n : Nat} {us : List Value} (hown : w.ownsRow 0 e i.size v n us)
    {ad : Option Addr} {m c : Nat} {vs : List Value} (hl : vs.length = m * i.size) (hrd : vs = [] ∨ ∃ b, ad = some b ∧ RdAt w b vs) (h1 : ∀ u ∈ vs, u.oneCell' = true) (hbound : (n + m) * i.bytes ≤ 140737488355328) :
    ∃ v' w', (Builtin.append_ #[t, t] ty #[v, .slice ad m c]).run P w = .ok v' w' ∧ w'.ownsRow 0 e i.size v' (n + m) (us ++ vs) ∧ w.grownBy w' v.ownBlock ∧ (v'.ownBlock = v.ownBlock ∨ v'.ownBlock = some w.heap.size) := by
  have hnm : n + m ≤ 140737488355328 := Nat.le_trans (Nat.le_mul_of_pos_right _ hb) hbound
  cases ad with
  | some b =>
    have hrd' : RdAt w b vs := by
      rcases hrd with rfl | ⟨b', e1, h2⟩
      · intro j u hu; simp at hu
      · injection e1 with e1; subst e1; exact h2
    obtain ⟨v', w', e1, e2, e3, _, e5⟩ := run_append_own_at (P := P) w 0 t ty e i z i.size i.bytes ht hi hz rfl rfl hzs hsz v n us hown b m c vs hl hrd' h1 (by simp only [maxLen]; omega) hbound (by omega)
    exact ⟨v', w', e1, e2, e3, e5⟩
  | none =>
    have hvs : vs = [] := by
      rcases hrd with h | ⟨b, h, _⟩
      · exact h
      · cases h
    subst hvs
    have hm : m = 0 := by
      rcases Nat.eq_zero_or_pos m with h0 | h0
      · exact h0
      · have := Nat.mul_pos h0 hsz
        simp only [List.length_nil] at hl
        omega
    subst hm
    refine ⟨v, w, ?_, by simpa using hown, ⟨rfl, rfl, rfl, Nat.le_refl _, fun _ _ _ => rfl⟩, .inl rfl⟩
    rcases hown.2 with ⟨rfl, hn⟩ | ⟨gg, cap, cur, rfl, _, _, hnc, _⟩
    · simp [Builtin.append_, run_underlying ht, sizeOf, typeInfo, hi, Builtin.lenOf, Builtin.firstCells]
    · simp [Builtin.append_, run_underlying ht, sizeOf, typeInfo, hi, Builtin.lenOf, Builtin.firstCells, hnc, storeCells]
end
end Go.Proofs.Av
end
section
namespace Go.Proofs.Av
open Go.RowKit
section
variable {C : Ctx} {w w' : World} {g g' : Nat → Value} {s s' : S} {a : Act} {o : Oper} {d : Option Nat} {out : Out} {call : FuncId → List V → Obs → Option Res}
theorem ownBlock_blk {v : Value} (h : ∃ ad n c, v = .slice ad n c) : v.ownBlock = blk v := by
  obtain ⟨ad, n, c, rfl⟩ := h
  cases ad <;> rfl
theorem ownsRow_slice {w : World} {e : TypeId} {sz n : Nat} {v : Value} {us : List Value} (h : w.ownsRow 0 e sz v n us) : ∃ ad n c, v = .slice ad n c := by
  rcases h.2 with ⟨rfl, _⟩ | ⟨gg, cap, cur, rfl, _⟩
  · exact ⟨_, _, _, rfl⟩
  · exact ⟨_, _, _, rfl⟩
theorem skOk_cases {k : SK} {t : T} (h : skOk k t = true) (hk : k ≠ .s) : (∃ z l, t = .by_ z l ∧ k = .by_) ∨ ∃ z e xs, t = .sl z e xs ∧ k = .sl e := by
  cases k with
  | s => exact absurd rfl hk
  | by_ => cases t <;> first | exact .inl ⟨_, _, rfl, rfl⟩ | simp [skOk] at h
  | sl e => cases t <;> first | (simp only [skOk, beq_iff_eq] at h; subst h; exact .inr ⟨_, _, _, rfl, rfl⟩) | simp [skOk] at h
theorem app_core (h : Inv C w g s a) {t e : TypeId} {k : SK} {bytes : Nat} {x y : Operand} {y' : Opd} (hd : ∀ t, d = some t → t < C.nt) (hdd : o.dst = d) (hop : o.op = .call { callee := .builtin .append, args := #[x, y], argTypes := #[t, t] })
    (hy : okOpd C.P y y' = true) (ht : elemT? C.P t = some e) (hsk : skT C.P t k = true) (hk : appK C.P k e bytes = true)
    {q u r : T} (hu : spread s.obs (ev s.env y') = some u) (hku : skOk k u = true) (hkq : skOk k q = true) (hj : joinT q u = some r) {n m : Nat} (hn : tlen q = some n) (hm : tlen u = some m) (hbound : (n + m) * bytes ≤ 140737488355328)
    {dead : Nat → Prop} {l : Obs} (hl : ∀ p z, obAt l p = some z → ¬ dead p ∧ obAt s.obs p = some z) (hf : s.free (nid d) = true)
    {i : TypeInfo} (hi : C.P.info? e = some i) {us : List Value} (hown : w.ownsRow 0 e i.size (a.eval x) n us) (hR : Rs C.P w (C.Al s.obs g) (elemsOf q) us)
    (hqi : match (generalizing := false) q with
      | .sl _ e' xs => e' = e ∧ ∃ agg ls, kindE C.P e = some (agg, ls) ∧ ∀ x ∈ xs, okElem agg ls x = true
      | .by_ _ _ => i.size = 1 ∧ C.P.underlying e = some (.int .u8)
      | _ => False)
    (hdead : ∀ b, blk (a.eval x) = some b → ∃ p z, dead p ∧ obAt s.obs p = some z ∧ blk (g p) = some b) :
    St' C w a o .nx (S.put ⟨s.env, (nid d, .row e r) :: l⟩ d (.ow (nid d))) := by
  obtain ⟨hks, i', z, hi', hby, hb0, hsz0, hz, hzs⟩ := appK_eq hk
  rw [hi] at hi'
  injection hi' with hi'
  subst hi'
  subst hby
  obtain ⟨ad, m', c, vs, hev, hm', hmm, hRu, hrd, hone, huk⟩ := spread_ok h hy hu hku hks
  rw [hm] at hm'
  injection hm' with hm'
  subst hm'
  have hvl : vs.length = m * i.size := by
    rcases skOk_cases hku hks with ⟨z0, l0, rfl, rfl⟩ | ⟨z0, e0, xs0, rfl, rfl⟩
    · rcases skOk_cases hkq hks with ⟨z1, l1, rfl, _⟩ | ⟨z1, e1, xs1, rfl, h0⟩
      · simp only at hqi huk
        rw [hqi.1]; omega
      · cases h0
    · rcases skOk_cases hkq hks with ⟨z1, l1, rfl, h0⟩ | ⟨z1, e1, xs1, rfl, h0⟩
      · cases h0
      · injection h0 with h0
        subst h0
        simp only at hqi huk
        obtain ⟨agg, ls, hke, _, hvl⟩ := huk
        obtain ⟨rfl, _⟩ := hqi
        obtain ⟨i2, hi2, hs2, _⟩ := kindE_size hke
        rw [hi] at hi2
        injection hi2 with hi2
        subst hi2
        rw [hs2]; exact hvl
  obtain ⟨v', w', hrun, hown', hgrow, hat⟩ := run_app (P := C.P) (ty := o.type) (c := c) (elem_eq ht) hi hz hzs hsz0 hb0 hown hvl hrd hone hbound
  have hxs := ownBlock_blk (ownsRow_slice hown)
  have hvs := ownBlock_blk (ownsRow_slice hown')
  obtain ⟨j1, j2, j3⟩ := joinT_ok (P := C.P) (w := w) (A := C.Al s.obs g) hkq hku hj hR hRu
  have hinv : Inv C w' (fun o => if o = nid d then v' else g o) ⟨s.env, (nid d, .row e r) :: l⟩ a := by
    refine h.change (id := nid d) (x := .row e r) (val := v') (w' := w') (dead := dead) (nid_le d) hf (fun p zz hp => ?_) (fun b hb hnd => ?_) hgrow.os hgrow.tape hgrow.output hgrow.size (fun b hb => ?_) (fun H => ?_)
    · rw [obAt_cons] at hp
      split at hp
      · rename_i e1; simp only [Option.some.injEq] at hp; exact .inl ⟨e1.symm, hp.symm⟩
      · rename_i e1
        obtain ⟨h1, h2⟩ := hl p zz hp
        exact .inr ⟨fun q => e1 q.symm, h1, h2⟩
    · refine hgrow.block b hb (fun e1 => ?_)
      rw [hxs] at e1
      obtain ⟨p, zz, h1, h2, h3⟩ := hdead b e1.symm
      exact hnd p zz h1 h2 h3
    · rw [← hvs] at hb
      rcases hat with h1 | h1
      · rw [h1, hxs] at hb
        exact .inr (hdead b hb)
      · rw [h1] at hb
        injection hb with hb
        exact .inl (by omega)
    · refine ⟨n + m, us ++ vs, i.size, by simpa using hown', hsz0, by simp [hi], j2 n m hn hm, Rs.keep H _ _ j1, ?_⟩
      cases r <;> simp only at j3
      · obtain ⟨rfl, z0, l0, rfl⟩ := j3
        simp only at hqi
        exact ⟨rfl, hqi⟩
      · rename_i z1 e1 xs
        obtain ⟨rfl, ⟨z0, xs0, rfl⟩, j4⟩ := j3
        simp only at hqi
        obtain ⟨rfl, agg, ls, hke, hok⟩ := hqi
        refine ⟨rfl, rfl, agg, ls, hke, j4 agg ls (fun z2 xs2 e2 => ?_) (fun z2 xs2 e2 => ?_)⟩
        · injection e2 with _ _ e3
          subst e3
          exact hok
        · subst e2
          simp only at huk
          obtain ⟨agg', ls', hke', hok', _⟩ := huk
          rw [hke] at hke'
          simp only [Option.some.injEq, Prod.mk.injEq] at hke'
          obtain ⟨rfl, rfl⟩ := hke'
          exact hok'
  refine ⟨rfl, .value v', w', ?_, .inl ⟨v', rfl, _, by rw [hdd]; exact hinv.put hd ⟨by simp, ownsRow_slice hown'⟩⟩⟩
  simp [execOp, hop, resolve, invoke, builtin, hev, hrun]

theorem skT_by {P : Program} {t e : TypeId} {i : TypeInfo} (h : skT P t .by_ = true) (ht : elemT? P t = some e) (hi : P.info? e = some i) : i.size = 1 ∧ P.underlying e = some (.int .u8) := by
  obtain ⟨e', i', h1, h2, h3, h4⟩ := bySl_eq h
  have := elem_eq ht
  rw [h1] at this
  injection this with this
  injection this with this
  subst this
  rw [hi] at h3
  injection h3 with h3
  subst h3
  exact ⟨h4, h2⟩
theorem app_ok (h : Inv C w g s a) {t e : TypeId} {k : SK} {bytes : Nat} {x y : Operand} {x' y' : Opd} (hd : ∀ t, d = some t → t < C.nt) (hdd : o.dst = d) (hop : o.op = .call { callee := .builtin .append, args := #[x, y], argTypes := #[t, t] })
    (hx : okOpd C.P x x' = true) (hy : okOpd C.P y y' = true) (ht : elemT? C.P t = some e) (hsk : skT C.P t k = true) (hk : appK C.P k e bytes = true) (hs : stepO call s d (.app k e bytes x' y') = some (out, s')) : St' C w a o out s' := by
  obtain ⟨hks, i, z, hi, hby, hb0, hsz0, hz, hzs⟩ := appK_eq hk
  have ex := ev_ok h hx
  simp only [stepO] at hs
  obtain ⟨u, hu, hs⟩ := Option.bind_eq_some_iff.1 hs
  obtain ⟨hku, hs⟩ := bif_some hs
  obtain ⟨m, hm, hs⟩ := Option.bind_eq_some_iff.1 hs
  split at hs
  · rename_i e' hq
    obtain ⟨hkq, hs⟩ := bif_some hs
    by_cases hb : m * bytes ≤ 140737488355328
    · rw [show decide (m * bytes ≤ 140737488355328) = true by simpa using hb] at hs
      simp only [ifB] at hs
      obtain ⟨r, hr, hs⟩ := Option.bind_eq_some_iff.1 hs
      obtain ⟨hf, rfl, rfl⟩ := new_eq hs
      rw [hq] at ex
      obtain ⟨ad, c, cs, hv, _, _, hz', _, _, agg, ls, hke, _⟩ := RV_sl ex
      obtain ⟨rfl, rfl⟩ := hz' rfl
      rcases skOk_cases hkq hks with ⟨_, _, h0, _⟩ | ⟨_, e0, _, h0, rfl⟩
      · cases h0
      · injection h0 with _ h0 _
        subst h0
        simp only [skT, beq_iff_eq] at hsk
        rw [ht] at hsk
        injection hsk with hsk
        subst hsk
        exact app_core h (q := .sl false e []) (dead := fun _ => False) (n := 0) hd hdd hop hy ht (by simpa [skT] using ht) hk hu hku (by simp [skOk]) hr rfl hm (by simpa using hb) (fun p z hp => ⟨fun q => q, hp⟩) hf hi (us := [])
          (by rw [hv]; exact World.ownsRow_nil w 0 e i.size) rfl ⟨rfl, agg, ls, hke, by simp⟩ (fun b hb => by rw [hv] at hb; cases hb)
    · rw [show decide (m * bytes ≤ 140737488355328) = false by simpa using hb] at hs
      cases hs
  · rename_i hq
    obtain ⟨hkq, hs⟩ := bif_some hs
    by_cases hb : m * bytes ≤ 140737488355328
    · rw [show decide (m * bytes ≤ 140737488355328) = true by simpa using hb] at hs
      simp only [ifB] at hs
      obtain ⟨r, hr, hs⟩ := Option.bind_eq_some_iff.1 hs
      obtain ⟨hf, rfl, rfl⟩ := new_eq hs
      rw [hq] at ex
      obtain ⟨ad, c, hv, _, _, hz', _⟩ := RV_by ex
      obtain ⟨rfl, rfl⟩ := hz' rfl
      rcases skOk_cases hkq hks with ⟨_, _, h0, rfl⟩ | ⟨_, e0, _, h0, _⟩
      · exact app_core h (q := .by_ false []) (dead := fun _ => False) (n := 0) hd hdd hop hy ht hsk hk hu hku (by simp [skOk]) hr rfl hm (by simpa using hb) (fun p z hp => ⟨fun q => q, hp⟩) hf hi (us := [])
          (by rw [hv]; exact World.ownsRow_nil w 0 e i.size) rfl (skT_by hsk ht hi) (fun b hb => by rw [hv] at hb; cases hb)
      · cases h0
    · rw [show decide (m * bytes ≤ 140737488355328) = false by simpa using hb] at hs
      cases hs
  · rename_i q hq
    split at hs
    · rename_i e' t' hb'
      obtain ⟨hkq, hs2⟩ := bif_some hs
      simp only [Bool.and_eq_true, beq_iff_eq] at hkq
      obtain ⟨rfl, hkq⟩ := hkq
      obtain ⟨n, hn, hs⟩ := Option.bind_eq_some_iff.1 hs2
      by_cases hb : (n + m) * bytes ≤ 140737488355328
      · rw [show decide ((n + m) * bytes ≤ 140737488355328) = true by simpa using hb] at hs
        simp only [ifB] at hs
        obtain ⟨r, hr, hs⟩ := Option.bind_eq_some_iff.1 hs
        obtain ⟨hf, rfl, rfl⟩ := newIn_eq hs
        rw [hq] at ex
        obtain ⟨n', us, sz, h3, h4, h5, h6, h7, h8⟩ := h.obs _ _ hb'
        rw [hn] at h6
        injection h6 with h6
        subst h6
        have hsz : sz = i.size := by rw [hi] at h5; simpa using h5.symm
        subst hsz
        refine app_core h (q := t') (dead := fun p => p = q) hd hdd hop hy ht hsk hk hu hku hkq hr hn hm hb (fun p z hp => ?_) hf hi (us := us) (by rw [ex.1]; exact h3) h7 ?_ (fun b hb => ⟨q, _, rfl, hb', by rw [← ex.1]; exact hb⟩)
        · rw [obAt_del] at hp
          split at hp
          · cases hp
          · rename_i hpq; exact ⟨hpq, hp⟩
        · cases t' <;> simp only at h8
          · exact ⟨h8.2.1, h8.2.2⟩
          · exact ⟨h8.2.1, h8.2.2⟩
      · rw [show decide ((n + m) * bytes ≤ 140737488355328) = false by simpa using hb] at hs
        cases hs
    · cases hs
  · cases hs
end
end Go.Proofs.Av
end
section
namespace Go.Proofs.Av
open Go.RowKit
theorem layV_append : ∀ (xs ys us : List Value) (c : Nat), layV us c (xs ++ ys) = layV (layV us c xs) (c + xs.length) ys
  | [], ys, us, c => by simp [layV]
  | x :: r, ys, us, c => by
    simp only [List.cons_append, layV, List.length_cons]
    rw [layV_append r ys (us.set c x) (c + 1)]
    congr 1
    omega
def zipFrom : Nat → List Value → List (Nat × Value)
  | _, [] => []
  | n, v :: r => (n, v) :: zipFrom (n + 1) r
theorem fill_all {sz : Nat} : ∀ (vs : List Value) (k : Nat) (cells : Array Value), (∀ v ∈ vs, v.cells.size = sz) → (k + vs.length) * sz ≤ cells.size →
    ∃ c', Instr.fill (fun i => some (i * sz, sz)) cells (zipFrom k vs) = some c' ∧ c'.toList = layV cells.toList (k * sz) (vs.flatMap fun v => v.cells.toList)
  | [], k, cells, _, _ => ⟨cells, rfl, by simp [layV]⟩
  | v :: r, k, cells, hv, hl => by
    have h1 := hv v List.mem_cons_self
    simp only [zipFrom, Instr.fill]
    have hle : k * sz + sz ≤ cells.size := by
      have : (k + 1) * sz ≤ (k + (v :: r).length) * sz := Nat.mul_le_mul_right _ (by simp)
      rw [Nat.add_mul, Nat.one_mul] at this
      omega
    rw [if_neg (by simp [h1]; omega)]
    have e1 : (v.cells.zipIdx.foldl (fun cs (c, j) => cs.setIfInBounds (k * sz + j) c) cells).toList = layV cells.toList (k * sz) v.cells.toList := by
      rw [← Array.foldl_toList, Array.toList_zipIdx]
      exact fold_lay _ 0 _ _
    generalize hc : (v.cells.zipIdx.foldl (fun cs (c, j) => cs.setIfInBounds (k * sz + j) c) cells) = c1 at e1
    have hs1 : c1.size = cells.size := by rw [← Array.length_toList, e1, layV_len, Array.length_toList]
    obtain ⟨c', h2, h3⟩ := fill_all r (k + 1) c1 (fun x hx => hv x (List.mem_cons_of_mem _ hx)) (by rw [hs1]; simp only [List.length_cons] at hl; rw [show k + 1 + r.length = k + (r.length + 1) by omega]; exact hl)
    refine ⟨c', ?_, ?_⟩
    · rw [← h2]
    · rw [h3, e1, List.flatMap_cons, layV_append]
      congr 1
      rw [Array.length_toList, h1, Nat.add_mul, Nat.one_mul]
theorem run_bsl {P : Program} {w : World} {t e : TypeId} {i : TypeInfo} {z : Value} (ht : P.underlying t = some (.slice e)) (hi : P.info? e = some i) (hz : i.zero = some z) (vs : List Value) (hv : ∀ v ∈ vs, v.cells.size = i.size) (hb : vs.length * i.size ≤ 16777216) (parts : Array (Nat × Value)) (hp : parts.toList = zipFrom 0 vs) :
    (Instr.buildSlice t vs.length parts).run P w = .ok (.slice (some ⟨w.heap.size, 0, none⟩) vs.length vs.length) (w.alloc (.cells (vs.flatMap fun v => v.cells.toList).toArray e)) := by
  have hlen : ∀ vs : List Value, (∀ v ∈ vs, v.cells.size = i.size) → (vs.flatMap fun v => v.cells.toList).length = vs.length * i.size := by
    intro vs
    induction vs with
    | nil => intro _; simp
    | cons v r ih =>
      intro h
      rw [List.flatMap_cons, List.length_append, ih (fun x hx => h x (List.mem_cons_of_mem _ hx)), Array.length_toList, h v List.mem_cons_self, List.length_cons, Nat.add_mul]
      omega
  have hn : ¬ (vs.length * i.size > 2 ^ 24) := by omega
  have key : ∀ cells : Array Value, cells.size = vs.length * i.size → Instr.fill (fun i_1 => some (i_1 * i.size, i.size)) cells parts.toList = some (vs.flatMap fun v => v.cells.toList).toArray := by
    intro cells hc
    obtain ⟨c', h1, h2⟩ := fill_all (sz := i.size) vs 0 cells hv (by rw [hc]; simp)
    rw [hp, h1]
    congr 1
    apply Array.ext'
    rw [h2]
    have hl := hlen vs hv
    have hcl : cells.toList.length = cells.size := Array.length_toList
    rw [Nat.zero_mul, layV_eq _ 0 _ (by omega), List.drop_of_length_le (by omega)]
    simp
  by_cases h0 : vs.length * i.size = 0
  · have k0 := key (Array.map (fun (_ : Nat) => (default : Value)) (Array.range 0)) (by simp [h0])
    simp [Instr.buildSlice, run_underlying ht, sizeOf, typeInfo, hi, h0, k0, newRow]
  · have k0 := key ((Array.range (vs.length * i.size)).map (z.cells[· % z.cells.size]!)) (by simp)
    simp [Instr.buildSlice, run_underlying ht, sizeOf, typeInfo, hi, h0, hn, zeroValue, hz, k0, newRow]
section
variable {C : Ctx} {w w' : World} {g g' : Nat → Value} {s s' : S} {a : Act} {o : Oper} {d : Option Nat} {out : Out} {call : FuncId → List V → Obs → Option Res}
/-- A row of the call's own, in new memory. -/
theorem Inv.row (h : Inv C w g s a) {id : Nat} (hid : 1000 ≤ id) (hf : s.free id = true) {e : TypeId} {t : T} {n sz : Nat} {us : List Value} (hn : tlen t = some n) (hl : us.length = n * sz) (hz : 0 < sz) (hm : n ≤ maxLen) (hi : (C.P.info? e).map (·.size) = some sz) (hR : Rs C.P w (C.Al s.obs g) (elemsOf t) us)
    (hq : match (generalizing := false) t with
      | .sl z e' xs => z = false ∧ e' = e ∧ ∃ agg ls, kindE C.P e = some (agg, ls) ∧ ∀ x ∈ xs, okElem agg ls x = true
      | .by_ z _ => z = false ∧ sz = 1 ∧ C.P.underlying e = some (.int .u8)
      | _ => False) :
    Inv C (w.alloc (.cells us.toArray e)) (fun o => if o = id then .slice (some ⟨w.heap.size, 0, none⟩) n n else g o) ⟨s.env, (id, .row e t) :: s.obs⟩ a := by
  refine h.change (x := .row e t) (dead := fun _ => False) hid hf (fun p y hp => ?_) (fun b hb _ => heap_alloc w _ b hb) rfl rfl rfl (by simp) (fun b hb => ?_) (fun H => ?_)
  · rw [obAt_cons] at hp
    split at hp
    · rename_i e; simp only [Option.some.injEq] at hp; exact .inl ⟨e.symm, hp.symm⟩
    · rename_i e; exact .inr ⟨fun q => e q.symm, fun q => q, hp⟩
  · simp only [blk, Option.some.injEq] at hb
    exact .inl (by omega)
  · refine ⟨n, us, sz, ?_, hz, hi, hn, Rs.keep H _ us hR, hq⟩
    simp only [if_true]
    exact ⟨hl, .inr ⟨w.heap.size, n, us.toArray, rfl, by omega, heap_alloc_new w _, Nat.le_refl _, hm, by simpa using hl, by simp [← hl]⟩⟩
/-- What is known of the objects behind some have been held fast. -/
theorem fast_at (s : S) (o p : Nat) {x : Ob} (h : obAt (s.fast o).obs p = some x) : (∃ y, obAt s.obs p = some y) ∧ (p = o → ∀ e t, obAt s.obs o ≠ some (.row e t)) := by
  unfold S.fast at h
  split at h
  · rename_i e t ho
    simp only at h
    have := obAt_mapf (obDel s.obs o) (Ob.snap1 o t) p
    rw [this, obAt_del] at h
    split at h
    · cases h
    · rename_i hp
      obtain ⟨y, hy, _⟩ := Option.map_eq_some_iff.1 h
      exact ⟨⟨y, hy⟩, fun e => absurd e hp⟩
  · rename_i hno
    exact ⟨⟨x, h⟩, fun _ e t he => hno e t he⟩
theorem fasts_at : ∀ (l : List Nat) (s : S) (p : Nat) {x : Ob}, obAt (s.fasts l).obs p = some x → (∃ y, obAt s.obs p = some y) ∧ (p ∈ l → ∀ e t, obAt s.obs p ≠ some (.row e t))
  | [], s, p, x, h => ⟨⟨x, h⟩, by simp⟩
  | o :: r, s, p, x, h => by
    obtain ⟨⟨y, hy⟩, h2⟩ := fasts_at r (s.fast o) p h
    obtain ⟨h3, h4⟩ := fast_at s o p hy
    refine ⟨h3, fun hp e t he => ?_⟩
    rcases List.mem_cons.1 hp with rfl | hp
    · exact h4 rfl e t he
    · -- a row that is still there behind the first is the same row
      refine h2 hp e t ?_
      have : ∃ y, obAt (s.fast o).obs p = some y := ⟨y, hy⟩
      unfold S.fast at hy ⊢
      split
      · rename_i e' t' ho
        simp only
        have hm := obAt_mapf (obDel s.obs o) (Ob.snap1 o t') p
        rw [hm, obAt_del]
        by_cases hpo : p = o
        · subst hpo
          rw [ho] at hy
          simp only at hy
          rw [obAt_mapf (obDel s.obs p) (Ob.snap1 p t') p, obAt_del, if_pos rfl] at hy
          cases hy
        · rw [if_neg hpo, he]; rfl
      · exact he
theorem fasts_Al {C : Ctx} {g : Nat → Value} {s : S} (l : List Nat) : ∀ b, C.Al s.obs g b → C.Al (s.fasts l).obs g b := by
  rintro b ⟨h1, h2⟩
  refine ⟨h1, ?_⟩
  rintro ⟨p, x, h3, h4⟩
  obtain ⟨⟨y, hy⟩, _⟩ := fasts_at l s p h3
  exact h2 ⟨p, y, hy, h4⟩
/-- An element out of a value, once the rows that it names are held fast. -/
theorem toT_ok (h : Inv C w g s a) {l : List Nat} {v : V} {u : Value} (hv : RV C.P w (C.Al s.obs g) g v u) (hl : ∀ p ∈ owner v, p ∈ l) {t : T} (ht : toT s.obs v = some t) : R C.P w (C.Al (s.fasts l).obs g) t [u] := by
  unfold toT at ht
  split at ht
  · simp only [Option.some.injEq] at ht
    subst ht
    exact R.keep (fun b hb _ => ⟨rfl, fasts_Al l b hb⟩) _ _ hv
  · rename_i q
    split at ht
    · rename_i e t' hq
      simp only [Option.some.injEq] at ht
      subst ht
      have := hv.1
      subst this
      refine row_im (h.obs q _ hq) (fun b hb => ⟨(h.own q _ b hq hb).elim (fun h1 => .inr (.inl h1)) (fun h1 => .inr (.inr h1)), ?_⟩) (fun us hu => Rs.keep (fun b hb _ => ⟨rfl, fasts_Al l b hb⟩) _ _ hu)
      rintro ⟨p, x, h3, h4⟩
      obtain ⟨⟨y, hy⟩, h5⟩ := fasts_at l s p h3
      by_cases hpq : p = q
      · subst hpq
        exact h5 (hl p (by simp [owner])) e t' hq
      · exact h.apart p q y _ b hy hq hpq h4 hb
    · cases ht
  · cases ht

theorem mem_ownerL : ∀ {vs : List V} {v : V} {p : Nat}, v ∈ vs → p ∈ owner v → p ∈ ownerL vs
  | x :: r, v, p, hv, hp => by
    simp only [ownerL, List.mem_append]
    rcases List.mem_cons.1 hv with rfl | hv
    · exact .inl hp
    · exact .inr (mem_ownerL hv hp)
theorem snapL_ok (h : Inv C w g s a) {l : List Nat} : ∀ {vs : List V} {us : List Value} {cs : List T}, RVs C.P w (C.Al s.obs g) g vs us → (∀ v ∈ vs, ∀ p, v = .ow p → p ∈ l) → allT (V.snapL s.obs vs) = some cs → Rs C.P w (C.Al (s.fasts l).obs g) cs us
  | [], us, cs, hr, _, hc => by
    simp only [V.snapL, allT, Option.some.injEq] at hc
    subst hc
    exact hr
  | v :: r, us, cs, hr, hl, hc => by
    obtain ⟨u, us', rfl, h2, h3⟩ := hr
    simp only [V.snapL] at hc
    have hv : ∃ t ts, v.snap s.obs = .im t ∧ allT (V.snapL s.obs r) = some ts ∧ cs = t :: ts := by
      cases hq : v.snap s.obs <;> rw [hq] at hc <;> simp only [allT, reduceCtorEq] at hc
      obtain ⟨ts, h4, h5⟩ := Option.map_eq_some_iff.1 hc
      exact ⟨_, ts, rfl, h4, h5.symm⟩
    obtain ⟨t, ts, h4, h5, rfl⟩ := hv
    refine ⟨[u], us', rfl, ?_, snapL_ok h h3 (fun x hx => hl x (List.mem_cons_of_mem _ hx)) h5⟩
    refine toT_ok h (v := v) h2 (fun p hp => ?_) ?_
    · cases v <;> simp only [owner, List.mem_singleton, List.not_mem_nil] at hp
      · subst hp; exact hl _ List.mem_cons_self _ rfl
      · simp only [V.snap, reduceCtorEq] at h4
    · cases v <;> simp only [V.snap, reduceCtorEq, V.im.injEq] at h4
      · subst h4; rfl
      · rename_i q
        simp only [toT]
        split at h4
        · rename_i e t' hq
          simp only [V.im.injEq] at h4
          rw [h4]
        · cases h4
theorem elemT_ok (h : Inv C w g s a) {l : List Nat} {agg : Bool} {ls : List LK} {v : V} {u : Value} (hv : RV C.P w (C.Al s.obs g) g v u) (hl : ∀ p ∈ owner v, p ∈ l) {t : T} (ht : elemT s.obs agg v = some t) (hok : okElem agg ls t = true) : R C.P w (C.Al (s.fasts l).obs g) t u.cells.toList := by
  unfold elemT at ht
  cases agg with
  | true =>
    rw [cond_true] at ht
    split at ht
    · rename_i vs
      obtain ⟨cs, h1, rfl⟩ := Option.map_eq_some_iff.1 ht
      obtain ⟨us, rfl, h2⟩ := hv
      simp only [R]
      refine snapL_ok h h2 (fun x hx p hp => hl p ?_) h1
      subst hp
      simp only [owner]
      exact mem_ownerL hx (by simp [owner])
    · cases ht
  | false =>
    rw [cond_false] at ht
    have hR := toT_ok h hv hl ht
    have hne := leaves_ne (okElem_one hok) t (by simp)
    obtain ⟨u', h1, h2⟩ := hR.one hne
    simp only [List.cons.injEq, and_true] at h1
    subst h1
    have : u.cells = #[u] := by cases u <;> first | rfl | simp [Value.oneCell'] at h2
    rw [this]
    exact hR
theorem elemsT_ok (h : Inv C w g s a) {l : List Nat} {agg : Bool} {ls : List LK} : ∀ {vs : List V} {us : List Value} {ts : List T}, RVs C.P w (C.Al s.obs g) g vs us → (∀ v ∈ vs, ∀ p ∈ owner v, p ∈ l) → elemsT s.obs agg vs = some ts → ts.all (okElem agg ls) = true →
    Rs C.P w (C.Al (s.fasts l).obs g) ts (us.flatMap fun u => u.cells.toList) ∧ ts.length = us.length ∧ ∀ u ∈ us, u.cells.size = ls.length
  | [], us, ts, hr, _, hc, _ => by
    simp only [elemsT, Option.some.injEq] at hc
    simp only [RVs] at hr
    subst hc hr
    exact ⟨rfl, rfl, by simp⟩
  | v :: r, us, ts, hr, hl, hc, hok => by
    obtain ⟨u, us', rfl, h2, h3⟩ := hr
    simp only [elemsT] at hc
    obtain ⟨t, ht, hc⟩ := Option.bind_eq_some_iff.1 hc
    obtain ⟨ts', hts, rfl⟩ := Option.map_eq_some_iff.1 hc
    simp only [List.all_cons, Bool.and_eq_true] at hok
    have h4 := elemT_ok h h2 (hl v List.mem_cons_self) ht hok.1
    obtain ⟨h5, h6, h7⟩ := elemsT_ok h h3 (fun x hx => hl x (List.mem_cons_of_mem _ hx)) hts hok.2
    refine ⟨⟨_, _, by rw [List.flatMap_cons], h4, h5⟩, by simp [h6], fun x hx => ?_⟩
    rcases List.mem_cons.1 hx with rfl | hx
    · rw [← Array.length_toList]; exact (h4.elem hok.1).1
    · exact h7 x hx
theorem idx_zip {a : Act} : ∀ (ps : List (Nat × Operand)) (n : Nat) {l : List Operand}, idxParts n ps = some l → (ps.map fun x => (x.1, a.eval x.2)) = zipFrom n (l.map a.eval)
  | [], n, l, h => by simp only [idxParts, Option.some.injEq] at h; subst h; rfl
  | (j, x) :: r, n, l, h => by
    simp only [idxParts] at h
    split at h
    · rename_i hj
      obtain ⟨l', h1, rfl⟩ := Option.map_eq_some_iff.1 h
      simp only [List.map_cons, zipFrom, hj]
      rw [idx_zip r (n + 1) h1]
    · cases h
theorem bytes_elems {P : Program} {A : Nat → Prop} : ∀ {ts : List T} {us : List Value}, ts.all (okElem false [.i .u8]) = true → Rs P w A ts us → (ts.map fun y => UInt8.ofNat (getI y).toNat).map byteV = us
  | [], us, _, h => by simp only [Rs] at h; subst h; rfl
  | t :: ts, us, hok, h => by
    simp only [Rs] at h
    obtain ⟨u1, u2, rfl, h2, h3⟩ := h
    simp only [List.all_cons, Bool.and_eq_true] at hok
    have ho := okElem_one hok.1
    cases t <;> simp only [okLeaves, okLeaf, Bool.and_true, Bool.false_eq_true] at ho
    rename_i k n
    simp only [beq_iff_eq] at ho
    subst ho
    obtain ⟨rfl, h4, h5⟩ := h2
    simp only [IntKind.min, IntKind.max, IntKind.signed, IntKind.bits] at h4 h5
    have ih := bytes_elems hok.2 h3
    have e1 : getI (T.i IntKind.u8 n) = n := rfl
    rw [List.map_cons, List.map_cons, ih, e1, List.singleton_append]
    congr 1
    simp only [byteV, Value.int.injEq, true_and]
    have : n.toNat < 256 := by simp at h4 h5; omega
    have e2 : (UInt8.ofNat n.toNat).toNat = n.toNat := by
      rw [UInt8.toNat_ofNat']
      exact Nat.mod_eq_of_lt this
    rw [e2]
    simp at h4
    omega
theorem evs_len (e : Env) : ∀ xs : List Opd, (evs e xs).length = xs.length
  | [] => rfl
  | x :: r => by simp [evs, evs_len e r]
theorem bsl_ok (h : Inv C w g s a) {t e : TypeId} {n : Nat} {parts : Array (Nat × Operand)} {isBy agg : Bool} {ls : List LK} {xs : List Opd} (hd : ∀ t, d = some t → t < C.nt) (hdd : o.dst = d) (hop : o.op = .buildSlice t n parts) (ht : elemT? C.P t = some e) (hke : kindE C.P e = some (agg, ls)) (hb : n * ls.length ≤ 16777216)
    {i : TypeInfo} {z : Value} (hi : C.P.info? e = some i) (hz : i.zero = some z) (hby : (bif isBy then isU8 C.P e && !agg && ls == [.i .u8] else !(isU8 C.P e)) = true) (hn : xs.length = n) {l : List Operand} (hl : idxParts 0 parts.toList = some l) (hxs : okOpds C.P l xs = true)
    (hs : stepO call s d (.bsl e isBy agg ls xs) = some (out, s')) : St' C w a o out s' := by
  simp only [stepO] at hs
  obtain ⟨ts, hts, hs⟩ := Option.bind_eq_some_iff.1 hs
  by_cases hall : ts.all (okElem agg ls) = true
  · rw [hall, Bool.not_true, cond_false] at hs
    obtain ⟨hf, rfl, rfl⟩ := new_eq hs
    have hev := evs_ok h hxs
    let held := ownerL (evs s.env xs)
    obtain ⟨hR, hlen, hsz⟩ := elemsT_ok h (l := held) hev (fun v hv p hp => mem_ownerL hv hp) hts hall
    have h1 := Inv.fasts h held h
    obtain ⟨ii, hii, hs2, hpos, _⟩ := kindE_size hke
    rw [hi] at hii
    injection hii with hii
    subst hii
    have hvl : (l.map a.eval).length = n := by rw [RVs.len hev, ← hn, evs_len]
    have hpr : (parts.map fun x => (x.1, a.eval x.2)).toList = zipFrom 0 (l.map a.eval) := by rw [Array.toList_map]; exact idx_zip _ 0 hl
    have hrun := run_bsl (P := C.P) (w := w) (elem_eq ht) hi hz (l.map a.eval) (fun v hv => by rw [hsz v hv, hs2]) (by rw [hvl, hs2]; exact hb) _ hpr
    rw [hvl] at hrun
    have hn24 : n ≤ maxLen := by
      have := Nat.le_mul_of_pos_right n hpos
      simp only [maxLen]; omega
    have hlen' : ts.length = n := by rw [hlen, hvl]
    have hcl : ((l.map a.eval).flatMap fun u => u.cells.toList).length = n * i.size := by
      obtain ⟨h6, _⟩ := Rs.elems (fun x hx => List.all_eq_true.1 hall x hx) hR
      rw [h6, hlen', hs2]
    have hinv : Inv C (w.alloc (.cells ((l.map a.eval).flatMap fun u => u.cells.toList).toArray e)) (fun o => if o = nid d then .slice (some ⟨w.heap.size, 0, none⟩) n n else g o) ⟨(s.fasts held).env, (nid d, .row e (rowT isBy e ts)) :: (s.fasts held).obs⟩ a := by
      refine h1.row (nid_le d) hf (t := rowT isBy e ts) ?_ hcl (by omega) hn24 (by simp [hi]) ?_ ?_
      · cases isBy <;> simp [rowT, tlen, hlen']
      · cases isBy with
        | true =>
          rw [cond_true, Bool.and_eq_true, Bool.and_eq_true] at hby
          obtain ⟨⟨h7, h8⟩, h9⟩ := hby
          simp only [Bool.not_eq_true'] at h8
          simp only [beq_iff_eq] at h9
          subst h8 h9
          simp only [rowT, cond_true, elemsOf]
          have := bytes_elems hall hR
          rw [← this]
          exact Rs.bytes _
        | false => exact hR
      · cases isBy with
        | true =>
          rw [cond_true, Bool.and_eq_true, Bool.and_eq_true] at hby
          obtain ⟨⟨h7, h8⟩, h9⟩ := hby
          simp only [beq_iff_eq] at h9
          exact ⟨rfl, by rw [hs2, h9]; rfl, isInt_eq h7⟩
        | false => exact ⟨rfl, rfl, agg, ls, hke, fun x hx => List.all_eq_true.1 hall x hx⟩
    refine ⟨rfl, .value (.slice (some ⟨w.heap.size, 0, none⟩) n n), _, ?_, .inl ⟨_, rfl, _, by rw [hdd]; exact hinv.put hd ⟨by simp, _, _, _, rfl⟩⟩⟩
    simp [execOp, hop, hrun]
  · rw [Bool.not_eq_true] at hall
    rw [hall, Bool.not_false, cond_true] at hs
    cases hs
end
end Go.Proofs.Av
end
section
namespace Go.Proofs.Av
open Go.RowKit
section
variable {C : Ctx} {w w' : World} {g g' : Nat → Value} {s s' : S} {a : Act} {o : Oper} {d : Option Nat} {out : Out} {call : FuncId → List V → Obs → Option Res}
/-- Where an object's block lies. -/
theorem Inv.lt (h : Inv C w g s a) : ∀ p z k, obAt s.obs p = some z → blk (g p) = some k → k < w.heap.size := by
  intro p z k h1 h2
  have := h.obs p z h1
  cases z with
  | box vs =>
    obtain ⟨b', us, e, h3, h4, _⟩ := this
    rw [h3] at h2
    simp only [blk, Option.some.injEq] at h2
    subst h2
    exact (Array.getElem?_eq_some_iff.1 h4).1
  | row e t =>
    obtain ⟨n, us, sz, h3, _⟩ := this
    rcases h3.2 with ⟨e1, _⟩ | ⟨gg, cap, cur, e1, _, e3, _⟩
    · rw [e1] at h2; cases h2
    · rw [e1] at h2
      simp only [blk, Option.some.injEq] at h2
      subst h2
      exact (Array.getElem?_eq_some_iff.1 e3).1
/-- A block that is no object's takes a mark: its cells last. -/
theorem Inv.mark (h : Inv C w g s a) {b : Nat} (hb : ¬ Mb s.obs g b) (hbo : C.Pd b ∨ C.w0.heap.size ≤ b) (hw : ∀ k, k ≠ b → w'.heap[k]? = w.heap[k]?) (hc : ∀ p : Addr, p.block = b → w'.cell? p = w.cell? p) (hos : w'.os = w.os) (ht : w'.tape = w.tape) (ho : w'.output = w.output) (hsz : w'.heap.size = w.heap.size) : Inv C w' g s a := by
  have H : ∀ k, C.Al s.obs g k → k < w.heap.size → (∀ p : Addr, p.block = k → w'.cell? p = w.cell? p) ∧ C.Al s.obs g k := by
    intro k hk _
    refine ⟨fun p hp => ?_, hk⟩
    by_cases hkb : k = b
    · exact hc p (hp.trans hkb)
    · exact World.cell?_of_block (w := w) (by rw [hp]; exact hw k hkb)
  refine ⟨fun t => RV.keepC H _ _ (fun _ _ => rfl) (h.env t), fun p x hp => ?_, h.apart, h.own, ⟨hos.trans h.frame.os, ht.trans h.frame.tape, ho.trans h.frame.output, by rw [hsz]; exact h.frame.size, fun k hk hP => ?_⟩, h.low, h.size, h.defers⟩
  · have hne : ∀ k, blk (g p) = some k → k ≠ b := by
      rintro k hk rfl
      exact hb ⟨p, x, hp, hk⟩
    have := h.obs p x hp
    cases x with
    | box vs =>
      obtain ⟨b', us, e, h1, h2, h3⟩ := this
      exact ⟨b', us, e, h1, by rw [hw b' (hne b' (by rw [h1]; rfl)), h2], RVs.keepC H vs us.toList (fun _ _ => rfl) h3⟩
    | row e t =>
      obtain ⟨n, us, sz, h1, h2, h3, h4, h5, h6⟩ := this
      refine ⟨n, us, sz, ⟨h1.1, ?_⟩, h2, h3, h4, Rs.keepC H _ us h5, h6⟩
      rcases h1.2 with e1 | ⟨gg, cap, cur, e1, e2, e3, e4⟩
      · exact .inl e1
      · exact .inr ⟨gg, cap, cur, e1, e2, by rw [hw gg (hne gg (by rw [e1]; rfl)), e3], e4⟩
  · rw [hw k (fun e => ?_)]
    · exact h.frame.block k hk hP
    · subst e
      rcases hbo with h1 | h1
      · exact hP h1
      · omega
/-- New memory that is no object's. -/
theorem Inv.grow (h : Inv C w g s a) (hw : ∀ k, k < w.heap.size → w'.heap[k]? = w.heap[k]?) (hos : w'.os = w.os) (ht : w'.tape = w.tape) (ho : w'.output = w.output) (hsz : w.heap.size ≤ w'.heap.size) : Inv C w' g s a := by
  have H : ∀ k, C.Al s.obs g k → k < w.heap.size → w'.heap[k]? = w.heap[k]? ∧ C.Al s.obs g k := fun k hk hl => ⟨hw k hl, hk⟩
  refine ⟨fun t => RV.mono H (h.env t), fun p x hp => RO.keep H (fun b hb => hw b (h.lt p x b hp hb)) (fun _ _ => rfl) rfl (h.obs p x hp), h.apart, h.own, ⟨hos.trans h.frame.os, ht.trans h.frame.tape, ho.trans h.frame.output, Nat.le_trans h.frame.size hsz, fun k hk hP => ?_⟩, h.low, h.size, h.defers⟩
  rw [hw k (Nat.lt_of_lt_of_le hk h.frame.size)]
  exact h.frame.block k hk hP
theorem toB_ok (h : Inv C w g s a) {t u : TypeId} {x : Operand} {x' : Opd} (hd : ∀ t, d = some t → t < C.nt) (hdd : o.dst = d) (hop : o.op = .convert t u x) (ht : isStr C.P t = true) (hu : isBySl C.P u = true) (hx : okOpd C.P x x' = true) (hs : stepO call s d (.toB x') = some (out, s')) : St' C w a o out s' := by
  simp only [stepO] at hs
  split at hs
  · rename_i l hq
    obtain ⟨rfl, rfl⟩ := go_eq hs
    have ex := ev_ok h hx
    rw [hq] at ex
    obtain ⟨e1, hl⟩ := RV_s ex
    obtain ⟨e, i, he, he8, hi, _⟩ := bySl_eq hu
    have hrun := run_bytes_of_string (P := C.P) w t u e ⟨l.toArray⟩ (isStr_eq ht) he he8
    have hsz : (⟨l.toArray⟩ : ByteArray).size = l.length := by simp [ByteArray.size]
    rw [hsz] at hrun
    let W : World := w.drew.alloc (.cells (bytesRow ⟨l.toArray⟩ (grownCap w l.length 0 e)) e ((bytesRow ⟨l.toArray⟩ (grownCap w l.length 0 e)).size, (bytesRow ⟨l.toArray⟩ (grownCap w l.length 0 e)).size + 1))
    have hinv : Inv C W g s a := h.grow (fun k hk => heap_alloc w.drew _ k hk) rfl rfl rfl (by simp [W])
    refine ⟨rfl, .value (.slice (some ⟨w.heap.size, 0, none⟩) l.length (grownCap w l.length 0 e)), W, ?_, .inl ⟨_, rfl, g, ?_⟩⟩
    · simp [execOp, hop, e1, hrun, W]
    · rw [hdd]
      refine hinv.put hd ?_
      simp only [RV, R]
      refine ⟨some ⟨w.heap.size, 0, none⟩, grownCap w l.length 0 e, rfl, grownCap_ge w _ _ e, grownCap_le_maxLen w _ _ e hl, ⟨by simp, by simp⟩, .inr ⟨_, rfl, ⟨.inr (.inr h.frame.size), ?_⟩, fun j v hv => ?_⟩⟩
      · rintro ⟨p, z, h1, h2⟩
        have := h.lt p z _ h1 h2
        simp at this
      · rw [add_pl, Nat.zero_add]
        have hj : j < l.length := by
          have := (List.getElem?_eq_some_iff.1 hv).1
          simpa using this
        rw [List.getElem?_map, List.getElem?_eq_getElem hj] at hv
        rw [show W.cell? ⟨w.heap.size, j, none⟩ = _ from World.cell?_alloc_mark w.drew _ _ _ j, bytesRow_at _ _ j (by simpa using hj)]
        simpa [byteV] using hv
  · cases hs
/-- The mark of a conversion leaves every cell as it was. -/
theorem freeze_cell (w : World) (ad : Addr) (n : Nat) (p : Addr) : (w.freeze ad n).cell? p = w.cell? p := by
  unfold World.freeze
  by_cases h0 : n = 0
  · rw [if_pos h0]
  · rw [if_neg h0]
    unfold World.cell?
    simp only [Array.getElem?_modify]
    by_cases hb : ad.block = p.block
    · rw [if_pos hb]
      cases hq : w.heap[p.block]? with
      | none => rfl
      | some x => cases x <;> rfl
    · rw [if_neg hb]
theorem freeze_heap (w : World) (ad : Addr) (n k : Nat) (h : k ≠ ad.block) : (w.freeze ad n).heap[k]? = w.heap[k]? := by
  unfold World.freeze
  split
  · rfl
  · simp only [Array.getElem?_modify]
    rw [if_neg (fun e => h e.symm)]
theorem freeze_rest (w : World) (ad : Addr) (n : Nat) : (w.freeze ad n).os = w.os ∧ (w.freeze ad n).tape = w.tape ∧ (w.freeze ad n).output = w.output ∧ (w.freeze ad n).heap.size = w.heap.size := by
  unfold World.freeze
  split
  · exact ⟨rfl, rfl, rfl, rfl⟩
  · exact ⟨rfl, rfl, rfl, by simp⟩
/-- A row that is held fast is no object's any more. -/
theorem fast_Mb (h : Inv C w g s a) {q : Nat} {e : TypeId} {t : T} (hq : obAt s.obs q = some (.row e t)) {b : Nat} (hb : blk (g q) = some b) : ¬ Mb (s.fast q).obs g b := by
  rintro ⟨p, x, h1, h2⟩
  obtain ⟨⟨y, hy⟩, h3⟩ := fast_at s q p h1
  by_cases hp : p = q
  · subst hp; exact h3 rfl e t hq
  · exact h.apart p q y _ b hy hq hp h2 hb
/-- A row's data, once the row is held fast. -/
theorem fast_im (h : Inv C w g s a) {q : Nat} {e : TypeId} {t : T} (hq : obAt s.obs q = some (.row e t)) : R C.P w (C.Al (s.fast q).obs g) t [g q] :=
  toT_ok h (l := [q]) (v := .ow q) (u := g q) (t := t) (by
    obtain ⟨n, us, sz, h1, _⟩ := h.obs q _ hq
    exact ⟨rfl, ownsRow_slice h1⟩) (by simp [owner]) (by simp [toT, hq])
theorem cvb_ok (h : Inv C w g s a) {t : TypeId} {x : Operand} {x' : Opd} (hd : ∀ t, d = some t → t < C.nt) (hdd : o.dst = d) (hop : o.op = .convert t t x) (ht : isBySl C.P t = true) (hx : okOpd C.P x x' = true) (hs : stepO call s d (.cvb x') = some (out, s')) : St' C w a o out s' := by
  simp only [stepO] at hs
  split at hs
  · rename_i q hq
    split at hs
    · rename_i e z l hr
      by_cases hl : l.isEmpty = true
      · rw [hl, cond_true] at hs; cases hs
      · rw [Bool.not_eq_true] at hl
        rw [hl, cond_false] at hs
        obtain ⟨rfl, rfl⟩ := go_eq hs
        have ex := ev_ok h hx
        rw [hq] at ex
        have e0 := ex.1
        have him := fast_im h hr
        have h1 := h.fast q
        have hro := h.obs q _ hr
        obtain ⟨n, us, sz, h3, h4, h5, h6, h7, h8⟩ := hro
        rcases h3.2 with ⟨e1, e2⟩ | ⟨gg, cap, cur, e1, e2, e3, e4⟩
        · simp only [tlen, Option.some.injEq] at h6
          rw [← h6] at e2
          rw [List.isEmpty_eq_false_iff] at hl
          exact absurd (List.eq_nil_of_length_eq_zero e2) hl
        · have hb : blk (g q) = some gg := by rw [e1]; rfl
          obtain ⟨te, i, he, he8, _⟩ := bySl_eq ht
          have hsh : w.shape? gg = some (e, cur.size) := by simp [World.shape?, e3]
          have hrun : (convert t t (g q)).run C.P w = .ok (g q) (w.freeze ⟨gg, cur.size, none⟩ 1) := by
            rw [e1]
            simp [convert, run_underlying he, run_underlying he8, markStringish, hsh]
          obtain ⟨f1, f2, f3, f4⟩ := freeze_rest w ⟨gg, cur.size, none⟩ 1
          have hinv : Inv C (w.freeze ⟨gg, cur.size, none⟩ 1) g (s.fast q) a :=
            h1.mark (b := gg) (fast_Mb h hr hb) (h.own q _ gg hr hb) (fun k hk => freeze_heap w _ 1 k hk) (fun p _ => freeze_cell w _ 1 p) f1 f2 f3 f4
          refine ⟨rfl, .value (g q), w.freeze ⟨gg, cur.size, none⟩ 1, ?_, .inl ⟨_, rfl, g, ?_⟩⟩
          · simp [execOp, hop, e0, hrun]
          · rw [hdd]
            refine hinv.put hd ?_
            obtain ⟨ad, c, j1, j2, j3, j4, j5⟩ := him
            simp only [RV, R]
            refine ⟨ad, c, by simpa using j1, j2, j3, ⟨by simp, j4.2⟩, j5.keepC (fun b hb _ => ⟨fun p _ => freeze_cell w _ 1 p, hb⟩)⟩
    · cases hs
  · cases hs
/-- A cut of a row: the row is held fast. -/
theorem slc_row_ok (h : Inv C w g s a) {t : TypeId} {k : SK} {x : Operand} {lo hi : Option Operand} {x' : Opd} {lo' hi' : Option Opd} (hd : ∀ t, d = some t → t < C.nt) (hdd : o.dst = d) (hop : o.op = .slice t x lo hi none) (hk : skT C.P t k = true)
    (hx : okOpd C.P x x' = true) (hl : okOpt C.P lo lo' = true) (hh : okOpt C.P hi hi' = true) {q : Nat} (hq : ev s.env x' = .ow q) (hs : stepO call s d (.slc k x' lo' hi') = some (out, s')) : St' C w a o out s' := by
  simp only [stepO] at hs
  split at hs
  · rename_i b c hb hc
    rw [hq] at hs
    simp only at hs
    split at hs
    · rename_i e t' hr
      by_cases hkq : skOk k t' = true
      · rw [hkq, cond_true] at hs
        obtain ⟨r, hr', hz⟩ := bind_go hs
        simp only [Prod.mk.injEq] at hz
        obtain ⟨rfl, rfl⟩ := hz
        have ex := ev_ok h hx
        rw [hq] at ex
        have him := fast_im h hr
        obtain ⟨v, hv, hR⟩ := cut_ok hk hkq him hr' (idxOf_ok h hl hb) (idxOf_ok h hh hc)
        refine ⟨rfl, .value v, w, ?_, .inl ⟨_, rfl, g, ?_⟩⟩
        · simp [execOp, hop, ex.1, hv]
        · rw [hdd]
          exact (h.fast q).put hd hR
      · rw [Bool.not_eq_true] at hkq
        rw [hkq] at hs
        cases hs
    · cases hs
  · cases hs
end
end Go.Proofs.Av
end
section
namespace Go.Proofs.Av
open Go.RowKit
section
variable {P : Program} {w : World} {A : Nat → Prop} {g : Nat → Value}
theorem mkElem_ok {agg : Bool} {ls : List LK} {cs : List T} {el : T} {us : List Value} (hm : mkElem agg ls cs = some el) (h : Rs P w A cs us) : R P w A el us ∧ okElem agg ls el = true := by
  unfold mkElem at hm
  by_cases hl : okLeaves ls cs = true
  · rw [hl, Bool.not_true, cond_false] at hm
    cases agg with
    | true =>
      simp only [cond_true, Option.some.injEq] at hm
      subst hm
      exact ⟨h, hl⟩
    | false =>
      rw [cond_false] at hm
      split at hm
      · simp only [Option.some.injEq] at hm
        subst hm
        simp only [Rs] at h
        obtain ⟨u1, u2, rfl, h2, rfl⟩ := h
        exact ⟨by simpa using h2, hl⟩
      · cases hm
  · rw [Bool.not_eq_true] at hl
    rw [hl, Bool.not_false, cond_true] at hm
    cases hm
theorem Rs.single : ∀ {ts : List T} {us : List Value}, (∀ x ∈ ts, ∀ cs, x ≠ .ag cs) → Rs P w A ts us → us.length = ts.length ∧ (∀ n, Rs P w A (ts.take n) (us.take n)) ∧ ∀ n, Rs P w A (ts.drop n) (us.drop n)
  | [], us, _, h => by simp only [Rs] at h; subst h; simp [Rs]
  | x :: r, us, hn, h => by
    simp only [Rs] at h
    obtain ⟨u1, u2, rfl, h2, h3⟩ := h
    obtain ⟨u, rfl, _⟩ := h2.one (hn x List.mem_cons_self)
    obtain ⟨h4, h5, h6⟩ := Rs.single (fun y hy => hn y (List.mem_cons_of_mem _ hy)) h3
    refine ⟨by simp [h4], fun n => ?_, fun n => ?_⟩
    · cases n with
      | zero => simp [Rs]
      | succ n => exact ⟨[u], u2.take n, rfl, h2, h5 n⟩
    · cases n with
      | zero => exact ⟨[u], u2, rfl, h2, h3⟩
      | succ n => simpa using h6 n
theorem set_split {α : Type} (xs : List α) (j : Nat) (x : α) (h : j < xs.length) : xs.set j x = xs.take j ++ x :: xs.drop (j + 1) := by
  rw [List.set_eq_take_append_cons_drop, if_pos h]
/-- One element of a list gets other cells. -/
theorem put_elem {agg : Bool} {ls : List LK} {xs : List T} {us : List Value} (ho : ∀ x ∈ xs, okElem agg ls x = true) (h : Rs P w A xs us) {j c n : Nat} (hj : j < xs.length) {d : T} {ys : List T} {yv : List Value} (hc : c + n ≤ (etaC agg ls (xs.getD j d)).length) (hn : yv.length = n)
    (hy : Rs P w A ys yv) {el : T} (hm : mkElem agg ls ((etaC agg ls (xs.getD j d)).take c ++ ys ++ (etaC agg ls (xs.getD j d)).drop (c + n)) = some el) :
    Rs P w A (xs.set j el) (layV us (j * ls.length + c) yv) ∧ okElem agg ls el = true ∧ j * ls.length + c + n ≤ us.length := by
  have hx : xs[j]? = some (xs.getD j d) := by simp [List.getD, hj]
  obtain ⟨hul, _, hel⟩ := Rs.elems ho h
  have hR := hel j _ hx
  obtain ⟨hE, hL⟩ := etaC_ok (ho _ (List.mem_of_getElem? hx)) hR
  generalize etaC agg ls (xs.getD j d) = cs at *
  obtain ⟨hs1, hs2, hs3⟩ := Rs.single (leaves_ne hL) hE
  have hlen : cs.length = ls.length := by
    have := (Rs.leaves hL hE).1
    omega
  have hb : j * ls.length + ls.length ≤ us.length := by
    rw [hul]
    have := Nat.mul_le_mul_right ls.length hj
    rw [Nat.succ_mul] at this
    exact this
  obtain ⟨h1, h2⟩ := mkElem_ok hm (((hs2 c).append hy).append (hs3 (c + n)))
  refine ⟨?_, h2, by omega⟩
  rw [set_split xs j el hj, layV_eq us _ yv (by omega)]
  have e : us.take (j * ls.length + c) ++ yv ++ us.drop (j * ls.length + c + yv.length) = us.take (j * ls.length) ++ ((((us.drop (j * ls.length)).take ls.length).take c ++ yv ++ ((us.drop (j * ls.length)).take ls.length).drop (c + n)) ++ us.drop ((j + 1) * ls.length)) := by
    have e1 : us.take (j * ls.length + c) = us.take (j * ls.length) ++ ((us.drop (j * ls.length)).take ls.length).take c := by
      rw [List.take_add, List.take_take, Nat.min_eq_left (by omega)]
    have e2 : us.drop (j * ls.length + c + yv.length) = ((us.drop (j * ls.length)).take ls.length).drop (c + n) ++ us.drop ((j + 1) * ls.length) := by
      rw [List.drop_take, List.drop_drop, Nat.succ_mul]
      have := List.take_append_drop (ls.length - (c + n)) (us.drop (j * ls.length + (c + n)))
      rw [List.drop_drop] at this
      rw [hn, Nat.add_assoc, show j * ls.length + ls.length = j * ls.length + (c + n) + (ls.length - (c + n)) by omega]
      exact this.symm
    rw [e1, e2]
    simp only [List.append_assoc]
  rw [e]
  refine (Rs.take ho j h).append ⟨_, _, rfl, ?_, Rs.drop ho (j + 1) h⟩
  simpa using h1
end
section
variable {C : Ctx} {w w' : World} {g g' : Nat → Value} {s s' : S} {a : Act} {o : Oper} {d : Option Nat} {out : Out} {call : FuncId → List V → Obs → Option Res}
/-- A row that isn't held fast stays. -/
theorem fast_stays (s : S) {p q : Nat} (h : q ≠ p) {e : TypeId} {t : T} (hq : obAt s.obs q = some (.row e t)) : obAt (s.fast p).obs q = some (.row e t) := by
  unfold S.fast
  split
  · rename_i e' t' _
    simp only
    rw [obAt_mapf (obDel s.obs p) (Ob.snap1 p t') q, obAt_del, if_neg h, hq]
    rfl
  · exact hq
theorem fasts_stay : ∀ (l : List Nat) (s : S) {q : Nat}, q ∉ l → ∀ {e : TypeId} {t : T}, obAt s.obs q = some (.row e t) → obAt (s.fasts l).obs q = some (.row e t)
  | [], _, _, _, _, _, h => h
  | p :: r, s, q, hq, _, _, h => fasts_stay r (s.fast p) (fun hm => hq (List.mem_cons_of_mem _ hm)) (fast_stays s (by rintro rfl; exact hq List.mem_cons_self) h)
theorem owner_cells {v : V} {p : Nat} (h : V.ow p ∈ v.cells) : p ∈ owner v := by
  cases v <;> simp only [V.cells, List.mem_singleton, reduceCtorEq] at h
  · injection h with h
    subst h
    simp [owner]
  · simp only [owner]
    exact mem_ownerL h (by simp [owner])
theorem take_lay {cur : List Value} {us yv : List Value} {m c : Nat} (h : cur.take m = us) (hc : c + yv.length ≤ us.length) (hm : m ≤ cur.length) : (layV cur c yv).take m = layV us c yv := by
  subst h
  have h1 : c + yv.length ≤ m := by simp at hc; omega
  apply List.ext_getElem?
  intro j
  rw [List.getElem?_take, layV_get, layV_get]
  by_cases hj : j < m
  · rw [if_pos hj]
    have e1 : (c ≤ j ∧ j < c + yv.length ∧ j < cur.length) ↔ (c ≤ j ∧ j < c + yv.length ∧ j < (cur.take m).length) := by simp; omega
    by_cases h2 : c ≤ j ∧ j < c + yv.length ∧ j < cur.length
    · rw [if_pos h2, if_pos (e1.1 h2)]
    · rw [if_neg h2, if_neg (fun h => h2 (e1.2 h)), List.getElem?_take, if_pos hj]
  · rw [if_neg hj, if_neg (by omega), List.getElem?_take, if_neg hj]
theorem byte_el {P : Program} {A : Nat → Prop} {el : T} {us : List Value} (ho : okElem false [.i .u8] el = true) (hR : R P w A el us) : byteT (UInt8.ofNat (getI el).toNat) = el := by
  have ho' := okElem_one ho
  cases el <;> simp only [okLeaves, okLeaf, Bool.and_true, Bool.false_eq_true] at ho'
  rename_i k0 n0
  simp only [beq_iff_eq] at ho'
  subst ho'
  obtain ⟨_, h10, h11⟩ := hR
  simp only [IntKind.min, IntKind.max, IntKind.signed, IntKind.bits] at h10 h11
  simp only [byteT, getI, T.i.injEq, true_and]
  have : n0.toNat < 256 := by simp at h10 h11; omega
  have e2 : (UInt8.ofNat n0.toNat).toNat = n0.toNat := by
    rw [UInt8.toNat_ofNat']
    exact Nat.mod_eq_of_lt this
  rw [e2]
  simp at h10
  omega
theorem sto_re_ok (h : Inv C w g s a) {t : TypeId} {n : Nat} {x y : Operand} {x' y' : Opd} (hd : ∀ t, d = some t → t < C.nt) (hdd : o.dst = d) (hop : o.op = .store t x y) (hx : okOpd C.P x x' = true) (hy : okOpd C.P y y' = true) (ht : sizeT C.P t = some n)
    {q : Nat} {k : SK} {agg : Bool} {ls : List LK} {j c : Nat} (hq : ev s.env x' = .re q k agg ls j c) (hs : stepO call s d (.sto n x' y') = some (out, s')) : St' C w a o out s' := by
  simp only [stepO] at hs
  obtain ⟨hk, hs⟩ := bif_some hs
  simp only [Bool.and_eq_true, beq_iff_eq] at hk
  rw [hq] at hs
  simp only at hs
  split at hs
  · rename_i e t' ys hr hys
    obtain ⟨cs, hcs, hs⟩ := Option.bind_eq_some_iff.1 hs
    obtain ⟨hc, hs⟩ := bif_some hs
    simp only [Bool.and_eq_true, decide_eq_true_eq, Bool.not_eq_true'] at hc
    obtain ⟨⟨hsk, hcn⟩, hheld⟩ := hc
    obtain ⟨el, hel, hs⟩ := Option.bind_eq_some_iff.1 hs
    obtain ⟨rfl, rfl⟩ := go_eq hs
    have hqn : q ∉ owner (ev s.env y') := fun hm => elem_false hheld q hm rfl
    have h1 := Inv.fasts h (owner (ev s.env y')) h
    have hr1 := fasts_stay (owner (ev s.env y')) s hqn hr
    have ex := ev_ok h hx
    rw [hq] at ex
    obtain ⟨b, m, cap, e1, hjm, e2, hkk⟩ := ex
    have ey := ev_ok h hy
    have hcok : (ev s.env y').cellsOk = true := by
      have := hk.2
      cases hv : ev s.env y' <;> rw [hv] at this <;> simp_all [V.cells, V.cellsOk]
    have hR := cellsOk_RVs hcok ey
    have hys' := snapL_ok h (l := owner (ev s.env y')) hR (fun v hv p hp => owner_cells (by rw [← hp]; exact hv)) hys
    have hro := h1.obs q _ hr1
    obtain ⟨m', us, sz, h3, h4, h5, h6, h7, h8⟩ := hro
    have hyl : (a.eval y).cells.toList.length = n := by rw [RVs.len hR]; exact hk.1
    rcases h3.2 with ⟨e3, _⟩ | ⟨gg, cap', cur, e3, e4, e5, e6, e7, e8, e9⟩
    · rw [e1] at e3; cases e3
    · rw [e1] at e3
      injection e3 with e3 e3' e3''
      injection e3 with e3
      injection e3 with e3
      subst e3 e3' e3''
      -- the row as a list of elements
      have key : ∃ (xs : List T), elemsOf t' = xs ∧ xs.length = m ∧ (∀ z ∈ xs, okElem agg ls z = true) ∧ sz = ls.length ∧ cs = etaC agg ls (xs.getD j (.b false)) ∧
          (okElem agg ls el = true → R C.P w (C.Al (s.fasts (owner (ev s.env y'))).obs g) el ((layV us (j * ls.length + c) (a.eval y).cells.toList).drop (j * ls.length) |>.take ls.length) → elemsOf (setT t' j el) = xs.set j el) ∧ tlen (setT t' j el) = some m ∧
          (match (generalizing := false) t' with
            | .sl z e' xs => z = false ∧ e' = e ∧ kindE C.P e = some (agg, ls)
            | .by_ z _ => z = false ∧ sz = 1 ∧ C.P.underlying e = some (.int .u8)
            | _ => False) := by
        cases t' with
        | i _ _ => exact h8.elim
        | b _ => exact h8.elim
        | s _ => exact h8.elim
        | ag _ => exact h8.elim
        | o _ => exact h8.elim
        | by_ z l =>
          obtain ⟨rfl, rfl, h9⟩ := h8
          cases k <;> simp only [skOk, Bool.false_eq_true] at hsk
          obtain ⟨rfl, rfl⟩ := hkk
          simp only [tlen, Option.some.injEq] at h6
          simp only [rowCells, Option.some.injEq] at hcs
          subst hcs
          refine ⟨l.map byteT, rfl, by simpa using h6, ?_, rfl, ?_, ?_, by simp [setT, tlen, h6], rfl, rfl, h9⟩
          · intro z hz
            obtain ⟨v, _, rfl⟩ := List.mem_map.1 hz
            rfl
          · have : (l.map byteT).getD j (.b false) = byteT (l.getD j 0) := by
              have hjl : j < l.length := by omega
              simp [List.getD, hjl]
            rw [this]
            rfl
          · intro ho hRe
            simp only [setT, elemsOf, List.map_set, byte_el ho hRe]
        | sl z e' xs =>
          obtain ⟨rfl, rfl, agg', ls', hke, hok⟩ := h8
          cases k <;> simp only [skOk, Bool.false_eq_true, beq_iff_eq] at hsk
          subst hsk
          have h2' : kindE C.P _ = some (agg, ls) := hkk
          rw [hke] at h2'
          simp only [Option.some.injEq, Prod.mk.injEq] at h2'
          obtain ⟨rfl, rfl⟩ := h2'
          simp only [tlen, Option.some.injEq] at h6
          simp only [rowCells, Option.some.injEq] at hcs
          obtain ⟨i, hi, his, _⟩ := kindE_size hke
          refine ⟨xs, rfl, h6, hok, ?_, hcs.symm, fun _ _ => rfl, by simp [setT, tlen, h6], rfl, rfl, hke⟩
          rw [hi] at h5
          simp only [Option.map, Option.some.injEq] at h5
          omega
      obtain ⟨xs, k1, k2, k3, k4, k5, k6, k7, k8⟩ := key
      subst k4
      rw [k1] at h7
      rw [k5] at hcn hel
      obtain ⟨p1, p2, p3⟩ := put_elem k3 h7 (j := j) (by omega) hcn hyl hys' hel
      have hus : us.length = m * ls.length := h3.1
      obtain ⟨i, hi, his⟩ := Option.map_eq_some_iff.1 ht
      have hcur : m * ls.length ≤ cur.toList.length := by rw [← hus, ← e9, List.length_take]; omega
      have hrun := store_run (P := C.P) (c := j * ls.length + c) (u := a.eval y) e5 hi his (by rw [← Array.length_toList]; exact hyl) (by rw [← Array.length_toList]; omega) (mapM_known hk.2 hR)
      have htl := take_lay (yv := (a.eval y).cells.toList) (c := j * ls.length + c) e9 (by omega) hcur
      have hel' : elemsOf (setT t' j el) = xs.set j el := by
        refine k6 p2 ?_
        have ho : ∀ z ∈ xs.set j el, okElem agg ls z = true := by
          intro z hz
          rcases List.mem_or_eq_of_mem_set hz with hz | rfl
          · exact k3 z hz
          · exact p2
        obtain ⟨_, _, hh⟩ := Rs.elems ho p1
        exact hh j el (by rw [List.getElem?_set_self (by omega)])
      have hw := h1.write (w' := w.setRow b (layV cur.toList (j * ls.length + c) (a.eval y).cells.toList).toArray) (y := .row e (setT t' j el)) hr1 (b := b) (by rw [e1]; rfl) (fun k _ hk => setRow_heap' w b _ k hk) rfl rfl rfl (by simp) (fun H => ?_)
      · refine ⟨rfl, .skip, w.setRow b (layV cur.toList (j * ls.length + c) (a.eval y).cells.toList).toArray, ?_, .inr ⟨rfl, g, ?_⟩⟩
        · simp [execOp, hop, e2, hrun]
        · rw [hdd]
          exact hw.put hd trivial
      · refine ⟨m, _, ls.length, ⟨?_, .inr ⟨b, cap, _, e1, Nat.zero_le _, setRow_heap w b cur _ e _ e5, e6, e7, ?_, rfl⟩⟩, h4, h5, k7, ?_, ?_⟩
        · rw [htl, layV_len]
          exact hus
        · simp only [List.size_toArray, layV_len, Array.length_toList]
          exact e8
        · rw [htl, hel']
          exact Rs.keep H _ _ p1
        · cases t' <;> simp only at k8 h8
          · obtain ⟨rfl, k9, k10⟩ := k8
            exact ⟨rfl, k9, k10⟩
          · obtain ⟨rfl, rfl, k9⟩ := k8
            refine ⟨rfl, rfl, agg, ls, k9, fun z hz => ?_⟩
            simp only [elemsOf] at k1
            subst k1
            rcases List.mem_or_eq_of_mem_set hz with hz | rfl
            · exact k3 z hz
            · exact p2
  · cases hs
end
end Go.Proofs.Av
end
