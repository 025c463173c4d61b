/- EVALUATION BY simp: how the abstract evaluator goes on, one operation at a time; a test that stays open comes to the head. -/
import Derived.Test.YtcfjcoglhimdeaaDoorAv0
import Derived.Laws.AppendOwn
import Derived.Laws.Rows
set_option linter.unusedSimpArgs false
set_option linter.unusedVariables false
section
namespace Go.Proofs.Av
variable {α β : Type}

theorem ifB_true (x y : α) : ifB true x y = x := rfl
theorem ifB_false (x y : α) : ifB false x y = y := rfl
theorem ifB_congr {c c' : Bool} (x y : α) (h : c = c') : ifB c x y = ifB c' x y := by rw [h]
theorem bind_ifB (c : Bool) (x y : Option α) (k : α → Option β) : (ifB c x y).bind k = ifB c (x.bind k) (y.bind k) := by cases c <;> rfl
theorem bind_some' (a : α) (k : α → Option β) : (some a).bind k = k a := rfl
theorem bind_none' (k : α → Option β) : (none : Option α).bind k = none := rfl
theorem map_some' (a : α) (k : α → β) : (some a).map k = some (k a) := rfl
theorem map_ifB (c : Bool) (x y : Option α) (k : α → β) : (ifB c x y).map k = ifB c (x.map k) (y.map k) := by cases c <;> rfl
theorem bind_congr' {r r' : Option α} (k : α → Option β) (h : r = r') : r.bind k = r'.bind k := by rw [h]

theorem andThen_nx (s : S) (k : S → Option (Out × S)) : andThen (some (.nx, s)) k = k s := rfl
theorem andThen_ex (i : Nat) (s : S) (k : S → Option (Out × S)) : andThen (some (.ex i, s)) k = some (.ex i, s) := rfl
theorem andThen_rt (s : S) (k : S → Option (Out × S)) : andThen (some (.rt, s)) k = some (.rt, s) := rfl
theorem andThen_pn (v : V) (s : S) (k : S → Option (Out × S)) : andThen (some (.pn v, s)) k = some (.pn v, s) := rfl
theorem andThen_none (k : S → Option (Out × S)) : andThen none k = none := rfl
theorem andThen_ifB (c : Bool) (x y : Option (Out × S)) (k : S → Option (Out × S)) : andThen (ifB c x y) k = ifB c (andThen x k) (andThen y k) := by cases c <;> rfl
theorem andThen_congr {r r' : Option (Out × S)} (k : S → Option (Out × S)) (h : r = r') : andThen r k = andThen r' k := by rw [h]
theorem leave_nx (id : Nat) (s : S) : leave id (some (.nx, s)) = some (.nx, s) := rfl
theorem leave_ex (id j : Nat) (s : S) : leave id (some (.ex j, s)) = bif j == id then some (.nx, s) else some (.ex j, s) := rfl
theorem leave_rt (id : Nat) (s : S) : leave id (some (.rt, s)) = some (.rt, s) := rfl
theorem leave_pn (id : Nat) (v : V) (s : S) : leave id (some (.pn v, s)) = some (.pn v, s) := rfl
theorem leave_none (id : Nat) : leave id none = none := rfl
theorem leave_ifB (id : Nat) (c : Bool) (x y : Option (Out × S)) : leave id (ifB c x y) = ifB c (leave id x) (leave id y) := by cases c <;> rfl
theorem fend_nx (pf : PF) (m : Nat) (s : S) : fend pf m (some (.nx, s)) = finish pf m s := rfl
theorem fend_rt (pf : PF) (m : Nat) (s : S) : fend pf m (some (.rt, s)) = finish pf m s := rfl
theorem fend_pn (pf : PF) (m : Nat) (v : V) (s : S) : fend pf m (some (.pn v, s)) = (close m ⟨[(0, v)], s.obs⟩).bind fun q => some (.pan (get q.env 0) q.obs) := rfl
theorem fend_none (pf : PF) (m : Nat) : fend pf m none = none := rfl
theorem fend_ifB (pf : PF) (m : Nat) (c : Bool) (x y : Option (Out × S)) : fend pf m (ifB c x y) = ifB c (fend pf m x) (fend pf m y) := by cases c <;> rfl
theorem fend_congr {pf : PF} {m : Nat} {r r' : Option (Out × S)} (h : r = r') : fend pf m r = fend pf m r' := by rw [h]

section
variable (call : FuncId → List V → Obs → Option Res) (loop : PC → S → Option (Out × S))
theorem again_nx (c : PC) (s : S) : again loop c (some (.nx, s)) = loop c s := rfl
theorem again_ex (c : PC) (i : Nat) (s : S) : again loop c (some (.ex i, s)) = some (.ex i, s) := rfl
theorem again_rt (c : PC) (s : S) : again loop c (some (.rt, s)) = some (.rt, s) := rfl
theorem again_pn (c : PC) (v : V) (s : S) : again loop c (some (.pn v, s)) = some (.pn v, s) := rfl
theorem again_none (c : PC) : again loop c none = none := rfl
theorem again_ifB (c : PC) (b : Bool) (x y : Option (Out × S)) : again loop c (ifB b x y) = ifB b (again loop c x) (again loop c y) := by cases b <;> rfl
theorem again_congr {c : PC} {r r' : Option (Out × S)} (h : r = r') : again loop c r = again loop c r' := by rw [h]
theorem runOps_nil (s : S) : runOps call [] s = some (.nx, s) := rfl
theorem runOps_o (d : Nat) (x : PO) (r : List POp) (s : S) : runOps call (o d x :: r) s = andThen (stepO call s (some d) x) (runOps call r) := rfl
theorem runOps_on (x : PO) (r : List POp) (s : S) : runOps call (on x :: r) s = andThen (stepO call s none x) (runOps call r) := rfl
def guarded (v : V) (want : Bool) (x y : Option (Out × S)) : Option (Out × S) := match v with
  | .im (.b c) => ifB (c == want) x y
  | .tp [] => y
  | _ => none
theorem guarded_u (want : Bool) (x y : Option (Out × S)) : guarded (.tp []) want x y = y := rfl
theorem guarded_b (c want : Bool) (x y : Option (Out × S)) : guarded (.im (.b c)) want x y = ifB (c == want) x y := rfl
theorem guarded_t (c : Bool) (x y : Option (Out × S)) : guarded (.im (.b c)) true x y = ifB c x y := by cases c <;> rfl
theorem guarded_f (c : Bool) (x y : Option (Out × S)) : guarded (.im (.b c)) false x y = ifB c y x := by cases c <;> rfl
theorem guarded_congr {v v' : V} (want : Bool) (x y : Option (Out × S)) (h : v = v') : guarded v want x y = guarded v' want x y := by rw [h]
theorem runOps_og (d : Option Nat) (j : Nat) (b : Bool) (x : PO) (r : List POp) (s : S) :
    runOps call (og d j b x :: r) s = guarded (get s.env j) b (andThen (stepO call s d x) (runOps call r)) (runOps call r (s.put d (.tp []))) := by
  unfold guarded
  rw [runOps]
  simp only [og]
  generalize get s.env j = v
  cases v with
  | im t => cases t <;> rfl
  | tp vs => cases vs <;> rfl
  | _ => rfl
theorem runOps_congr {l : List POp} {s s' : S} (h : s = s') : runOps call l s = runOps call l s' := by rw [h]
theorem run_congr {c : PC} {s s' : S} (h : s = s') : run call loop c s = run call loop c s' := by rw [h]
theorem run_sk (s : S) : run call loop .sk s = some (.nx, s) := rfl
theorem run_rg (ops : List POp) (keep : List Nat) (s : S) : run call loop (.rg ops keep) s = andThen (runOps call ops s) fun s1 => some (.nx, prune keep s1) := rfl
theorem run_rd (ops : List POp) (t : OT) (keep : List Nat) (s : S) : run call loop (.rd ops t keep) s = runT call ops keep t s := rfl
theorem runT_done (ops : List POp) (keep : List Nat) (s : S) : runT call ops keep .done s = some (.nx, prune keep s) := rfl
theorem runT_one (ops : List POp) (keep : List Nat) (i : Nat) (t : OT) (s : S) : runT call ops keep (.one i t) s = stepT call ops i s (runT call ops keep t) := rfl
theorem runT_br (ops : List POp) (keep : List Nat) (t : OT) (s : S) : runT call ops keep (.br t) s = runT call ops keep t s := rfl
theorem runT_alt1 (ops : List POp) (keep : List Nat) (i : Nat) (t : OT) (s : S) : runT call ops keep (.alt i t .stop) s = stepT call ops i s (runT call ops keep t) := rfl
theorem runT_alt2 (ops : List POp) (keep : List Nat) (i j : Nat) (t u r : OT) (s : S) : runT call ops keep (.alt i t (.alt j u r)) s = both (stepT call ops i s (runT call ops keep t)) (runT call ops keep (.alt j u r) s) := rfl
theorem behind_nx (s : S) (k : S → Option (Out × S)) : behind (some (.nx, s)) k = k s := rfl
theorem behind_pn (v : V) (s : S) (k : S → Option (Out × S)) : behind (some (.pn v, s)) k = some (.pn v, ⟨[], s.obs⟩) := rfl
theorem behind_none (k : S → Option (Out × S)) : behind none k = none := rfl
theorem behind_ifB (c : Bool) (x y : Option (Out × S)) (k : S → Option (Out × S)) : behind (ifB c x y) k = ifB c (behind x k) (behind y k) := by cases c <;> rfl
theorem behind_congr {r r' : Option (Out × S)} (k : S → Option (Out × S)) (h : r = r') : behind r k = behind r' k := by rw [h]
theorem run_sq (a b : PC) (s : S) : run call loop (.sq a b) s = andThen (run call loop a s) (run call loop b) := rfl
def branch (v : V) (x y : Option (Out × S)) : Option (Out × S) := match v with
  | .im (.b c) => ifB c x y
  | _ => none
theorem branch_b (c : Bool) (x y : Option (Out × S)) : branch (.im (.b c)) x y = ifB c x y := rfl
theorem branch_congr {v v' : V} (x y : Option (Out × S)) (h : v = v') : branch v x y = branch v' x y := by rw [h]
theorem run_cd (c : Opd) (a b : PC) (s : S) : run call loop (.cd c a b) s = branch (ev s.env c) (run call loop a s) (run call loop b s) := by
  unfold branch
  rw [run]
  generalize ev s.env c = v
  cases v with
  | im t => cases t <;> rfl
  | _ => rfl
theorem run_bk (id : Nat) (a : PC) (s : S) : run call loop (.bk id a) s = leave id (run call loop a s) := rfl
theorem run_lp (keep : List Nat) (own : List (Nat × Bool × TypeId)) (a : PC) (s : S) : run call loop (.lp keep own a) s = loop (.lp keep own a) s := rfl
theorem run_ex (id : Nat) (s : S) : run call loop (.ex id) s = some (.ex id, s) := rfl
theorem run_rt (s : S) : run call loop .rt s = some (.rt, s) := rfl
theorem get_cons (a t : Nat) (v : V) (r : Env) : get ((a, v) :: r) t = bif a == t then v else get r t := rfl

/-! ### Equality of ends -/
mutual
theorem T.eqb_self : ∀ t : T, T.eqb t t = true
  | .i _ _ => by simp [T.eqb]
  | .b _ => by simp [T.eqb]
  | .s _ => by simp [T.eqb]
  | .by_ _ _ => by simp [T.eqb]
  | .sl _ _ xs => by simp [T.eqb, T.eqbL_self xs]
  | .ag xs => by simp [T.eqb, T.eqbL_self xs]
  | .o _ => by simp [T.eqb]
theorem T.eqbL_self : ∀ l : List T, T.eqbL l l = true
  | [] => by simp [T.eqbL]
  | x :: r => by simp [T.eqbL, T.eqb_self x, T.eqbL_self r]
end
mutual
theorem V.eqb_self : ∀ t : V, V.eqb t t = true
  | .un => by simp [V.eqb]
  | .im t => by simp [V.eqb, T.eqb_self]
  | .ip ts => by simp [V.eqb, T.eqbL_self]
  | .rf _ _ => by simp [V.eqb]
  | .ow _ => by simp [V.eqb]
  | .re _ _ _ _ _ _ => by simp [V.eqb]
  | .fn _ vs => by simp [V.eqb, V.eqbL_self vs]
  | .ag vs => by simp [V.eqb, V.eqbL_self vs]
  | .tp vs => by simp [V.eqb, V.eqbL_self vs]
theorem V.eqbL_self : ∀ l : List V, V.eqbL l l = true
  | [] => by simp [V.eqbL]
  | x :: r => by simp [V.eqbL, V.eqb_self x, V.eqbL_self r]
end
theorem Ob.eqb_self (x : Ob) : Ob.eqb x x = true := by cases x <;> simp [Ob.eqb, V.eqbL_self, T.eqb_self]
theorem envEqb_self : ∀ l : Env, envEqb l l = true
  | [] => rfl
  | x :: r => by simp [envEqb, V.eqb_self, envEqb_self r]
theorem obsEqb_self : ∀ l : Obs, obsEqb l l = true
  | [] => rfl
  | x :: r => by simp [obsEqb, Ob.eqb_self, obsEqb_self r]
theorem resEqb_self (x : Out × S) : resEqb x x = true := by
  obtain ⟨o, s⟩ := x
  cases o <;> simp [resEqb, outEqb, envEqb_self, obsEqb_self, V.eqb_self]
mutual
theorem T.eqb_eq : ∀ t u : T, T.eqb t u = true → t = u
  | .i _ _, u, h => by cases u <;> simp [T.eqb] at h; rw [h.1, h.2]
  | .b _, u, h => by cases u <;> simp [T.eqb] at h; rw [h]
  | .s _, u, h => by cases u <;> simp [T.eqb] at h; rw [h]
  | .by_ _ _, u, h => by cases u <;> simp [T.eqb] at h; rw [h.1, h.2]
  | .sl _ _ xs, u, h => by
    cases u <;> simp [T.eqb] at h
    rw [h.1.1, h.1.2, T.eqbL_eq xs _ h.2]
  | .ag xs, u, h => by
    cases u <;> simp [T.eqb] at h
    rw [T.eqbL_eq xs _ h]
  | .o _, u, h => by cases u <;> simp [T.eqb] at h; rw [h]
theorem T.eqbL_eq : ∀ l m : List T, T.eqbL l m = true → l = m
  | [], m, h => by cases m <;> simp [T.eqbL] at h; rfl
  | x :: r, m, h => by
    cases m <;> simp [T.eqbL] at h
    rw [T.eqb_eq x _ h.1, T.eqbL_eq r _ h.2]
end
mutual
theorem V.eqb_eq : ∀ t u : V, V.eqb t u = true → t = u
  | .un, u, h => by cases u <;> simp [V.eqb] at h; rfl
  | .im t, u, h => by cases u <;> simp [V.eqb] at h; rw [T.eqb_eq _ _ h]
  | .ip t, u, h => by cases u <;> simp [V.eqb] at h; rw [T.eqbL_eq _ _ h]
  | .rf _ _, u, h => by cases u <;> simp [V.eqb] at h; rw [h.1, h.2]
  | .ow _, u, h => by cases u <;> simp [V.eqb] at h; rw [h]
  | .re _ _ _ _ _ _, u, h => by
    cases u <;> simp [V.eqb] at h
    obtain ⟨⟨⟨⟨⟨rfl, rfl⟩, rfl⟩, rfl⟩, rfl⟩, rfl⟩ := h
    rfl
  | .fn _ vs, u, h => by
    cases u <;> simp [V.eqb] at h
    rw [h.1, V.eqbL_eq vs _ h.2]
  | .ag vs, u, h => by
    cases u <;> simp [V.eqb] at h
    rw [V.eqbL_eq vs _ h]
  | .tp vs, u, h => by
    cases u <;> simp [V.eqb] at h
    rw [V.eqbL_eq vs _ h]
theorem V.eqbL_eq : ∀ l m : List V, V.eqbL l m = true → l = m
  | [], m, h => by cases m <;> simp [V.eqbL] at h; rfl
  | x :: r, m, h => by
    cases m <;> simp [V.eqbL] at h
    rw [V.eqb_eq x _ h.1, V.eqbL_eq r _ h.2]
end
theorem Ob.eqb_eq {x y : Ob} (h : Ob.eqb x y = true) : x = y := by
  cases x <;> cases y <;> simp [Ob.eqb] at h
  · rw [V.eqbL_eq _ _ h]
  · rw [h.1, T.eqb_eq _ _ h.2]
theorem envEqb_eq : ∀ l m : Env, envEqb l m = true → l = m
  | [], m, h => by cases m <;> simp [envEqb] at h; rfl
  | x :: r, m, h => by
    cases m <;> simp [envEqb] at h
    rw [envEqb_eq r _ h.2, Prod.ext h.1.1 (V.eqb_eq _ _ h.1.2)]
theorem obsEqb_eq : ∀ l m : Obs, obsEqb l m = true → l = m
  | [], m, h => by cases m <;> simp [obsEqb] at h; rfl
  | x :: r, m, h => by
    cases m <;> simp [obsEqb] at h
    rw [obsEqb_eq r _ h.2, Prod.ext h.1.1 (Ob.eqb_eq h.1.2)]
theorem resEqb_eq {x y : Out × S} (h : resEqb x y = true) : x = y := by
  obtain ⟨o, s⟩ := x
  obtain ⟨o', s'⟩ := y
  simp only [resEqb, Bool.and_eq_true] at h
  obtain ⟨⟨h1, h2⟩, h3⟩ := h
  obtain ⟨e1, l1⟩ := s
  obtain ⟨e2, l2⟩ := s'
  have a1 := envEqb_eq _ _ h2
  have a2 := obsEqb_eq _ _ h3
  simp only at a1 a2
  subst a1 a2
  congr 1
  cases o <;> cases o' <;> simp [outEqb] at h1
  · rfl
  · rw [h1]
  · rfl
  · rw [V.eqb_eq _ _ h1]
theorem both_eq {x y : Option (Out × S)} {p : Out × S} (h : both x y = some p) : x = some p ∧ y = some p := by
  unfold both at h
  obtain ⟨p1, h1, h⟩ := Option.bind_eq_some_iff.1 h
  obtain ⟨p2, h2, h⟩ := Option.bind_eq_some_iff.1 h
  by_cases hr : resEqb p1 p2 = true
  · rw [hr, cond_true] at h
    simp only [Option.some.injEq] at h
    have := resEqb_eq hr
    subst this h
    exact ⟨h1, h2⟩
  · rw [Bool.not_eq_true] at hr
    rw [hr] at h
    cases h
theorem both_self (x : Option (Out × S)) : both x x = x := by
  cases x with
  | none => rfl
  | some p =>
    simp only [both, Option.bind_some, resEqb_self, cond_true]

/-! ### Evaluation as a predicate -/
def W (r : Option (Out × S)) (Q : Out × S → Prop) : Prop := ∃ p, r = some p ∧ Q p
theorem W_some {p : Out × S} {Q : Out × S → Prop} (h : Q p) : W (some p) Q := ⟨p, rfl, h⟩
theorem W_some_iff (p : Out × S) (Q : Out × S → Prop) : W (some p) Q = Q p := propext (Iff.intro (fun ⟨q, h, k⟩ => by cases h; exact k) (fun h => ⟨p, rfl, h⟩))
theorem W_none_iff (Q : Out × S → Prop) : W none Q = False := propext (Iff.intro (fun ⟨q, h, _⟩ => by cases h) (fun h => h.elim))
theorem W_ifB {c : Bool} {x y : Option (Out × S)} {Q : Out × S → Prop} (h : c = true → W x Q) (k : c = false → W y Q) : W (ifB c x y) Q := by
  cases c
  · exact k rfl
  · exact h rfl
theorem W_mono {r : Option (Out × S)} {Q R : Out × S → Prop} (h : W r Q) (k : ∀ p, Q p → R p) : W r R := by
  obtain ⟨p, hp, hq⟩ := h
  exact ⟨p, hp, k p hq⟩
variable {call loop}
theorem W_andThen {r : Option (Out × S)} {k : S → Option (Out × S)} {Q : Out × S → Prop}
    (h : ∀ K : Out × S → Prop, (∀ s, W (k s) Q → K (.nx, s)) → (∀ i s, Q (.ex i, s) → K (.ex i, s)) → (∀ s, Q (.rt, s) → K (.rt, s)) → (∀ v s, Q (.pn v, s) → K (.pn v, s)) → W r K) : W (andThen r k) Q := by
  obtain ⟨p, hp, hq⟩ := h (fun p => W (andThen (some p) k) Q) (fun s h => h) (fun i s h => W_some h) (fun s h => W_some h) (fun v s h => W_some h)
  rw [hp]
  exact hq
theorem W_sq {a b : PC} {s : S} {Q : Out × S → Prop}
    (h : ∀ K : Out × S → Prop, (∀ s, W (run call loop b s) Q → K (.nx, s)) → (∀ i s, Q (.ex i, s) → K (.ex i, s)) → (∀ s, Q (.rt, s) → K (.rt, s)) → (∀ v s, Q (.pn v, s) → K (.pn v, s)) → W (run call loop a s) K) :
    W (run call loop (.sq a b) s) Q := W_andThen h
theorem W_rg {ops : List POp} {keep : List Nat} {s : S} {Q : Out × S → Prop}
    (h : ∀ K : Out × S → Prop, (∀ s, Q (.nx, prune keep s) → K (.nx, s)) → (∀ v s, Q (.pn v, s) → K (.pn v, s)) → W (runOps call ops s) (fun p => match p.1 with
      | .nx => K p
      | .pn _ => K p
      | _ => Q p)) :
    W (run call loop (.rg ops keep) s) Q := by
  rw [run_rg]
  refine W_andThen fun K h1 h2 h3 h4 => ?_
  refine W_mono (h (fun p => match p.1 with
    | .nx => K p
    | .pn _ => K p
    | _ => True) (fun s h => h1 s (W_some h)) (fun v s h => h4 v s h)) ?_
  rintro ⟨o, s⟩ hp
  cases o with
  | nx => exact hp
  | pn v => exact hp
  | ex i => exact h2 i s hp
  | rt => exact h3 s hp
theorem runOps_mv (d : Nat) (x : Opd) (r : List POp) (s : S) : runOps call (o d (.mv x) :: r) s = andThen (stepO call s (some d) (.mv x)) (runOps call r) := rfl
theorem runOps_cm (d : Nat) (p : BinOp) (x y : Opd) (r : List POp) (s : S) : runOps call (o d (.cm p x y) :: r) s = andThen (stepO call s (some d) (.cm p x y)) (runOps call r) := rfl
theorem runOps_ar (d : Nat) (p : BinOp) (k : IntKind) (x y : Opd) (r : List POp) (s : S) : runOps call (o d (.ar p k x y) :: r) s = andThen (stepO call s (some d) (.ar p k x y)) (runOps call r) := rfl
theorem runOps_eqb (d : Nat) (e : Bool) (x y : Opd) (r : List POp) (s : S) : runOps call (o d (.eqb e x y) :: r) s = andThen (stepO call s (some d) (.eqb e x y)) (runOps call r) := rfl
theorem runOps_eqp (d : Nat) (e : Bool) (x : Opd) (r : List POp) (s : S) : runOps call (o d (.eqp e x) :: r) s = andThen (stepO call s (some d) (.eqp e x)) (runOps call r) := rfl
theorem runOps_eqs (d : Nat) (e : Bool) (l : List LK) (x y : Opd) (r : List POp) (s : S) : runOps call (o d (.eqs e l x y) :: r) s = andThen (stepO call s (some d) (.eqs e l x y)) (runOps call r) := rfl
theorem runOps_not (d : Nat) (x : Opd) (r : List POp) (s : S) : runOps call (o d (.not x) :: r) s = andThen (stepO call s (some d) (.not x)) (runOps call r) := rfl
theorem runOps_neg (d : Nat) (k : IntKind) (x : Opd) (r : List POp) (s : S) : runOps call (o d (.neg k x) :: r) s = andThen (stepO call s (some d) (.neg k x)) (runOps call r) := rfl
theorem runOps_cv (d : Nat) (k : IntKind) (x : Opd) (r : List POp) (s : S) : runOps call (o d (.cv k x) :: r) s = andThen (stepO call s (some d) (.cv k x)) (runOps call r) := rfl
theorem runOps_toS (d : Nat) (x : Opd) (r : List POp) (s : S) : runOps call (o d (.toS x) :: r) s = andThen (stepO call s (some d) (.toS x)) (runOps call r) := rfl
theorem runOps_toB (d : Nat) (x : Opd) (r : List POp) (s : S) : runOps call (o d (.toB x) :: r) s = andThen (stepO call s (some d) (.toB x)) (runOps call r) := rfl
theorem runOps_cvb (d : Nat) (x : Opd) (r : List POp) (s : S) : runOps call (o d (.cvb x) :: r) s = andThen (stepO call s (some d) (.cvb x)) (runOps call r) := rfl
theorem runOps_len (d : Nat) (str : Bool) (x : Opd) (r : List POp) (s : S) : runOps call (o d (.len str x) :: r) s = andThen (stepO call s (some d) (.len str x)) (runOps call r) := rfl
theorem runOps_cvs (d : Nat) (x : Opd) (r : List POp) (s : S) : runOps call (o d (.cvs x) :: r) s = andThen (stepO call s (some d) (.cvs x)) (runOps call r) := rfl
theorem runOps_fld (d : Nat) (a : Nat) (n : Option Nat) (x : Opd) (r : List POp) (s : S) : runOps call (o d (.fld a n x) :: r) s = andThen (stepO call s (some d) (.fld a n x)) (runOps call r) := rfl
theorem runOps_bld (d : Nat) (z : List T) (l : List (Nat × Nat × Opd)) (r : List POp) (s : S) : runOps call (o d (.bld z l) :: r) s = andThen (stepO call s (some d) (.bld z l)) (runOps call r) := rfl
theorem runOps_bsl (d : Nat) (e : TypeId) (a b : Bool) (ls : List LK) (l : List Opd) (r : List POp) (s : S) : runOps call (o d (.bsl e a b ls l) :: r) s = andThen (stepO call s (some d) (.bsl e a b ls l)) (runOps call r) := rfl
theorem runOps_al (d : Nat) (z : List T) (r : List POp) (s : S) : runOps call (o d (.al z) :: r) s = andThen (stepO call s (some d) (.al z)) (runOps call r) := rfl
theorem runOps_bx (d : Nat) (x : Opd) (r : List POp) (s : S) : runOps call (o d (.bx x) :: r) s = andThen (stepO call s (some d) (.bx x)) (runOps call r) := rfl
theorem runOps_ld (d : Nat) (n : Option Nat) (x : Opd) (r : List POp) (s : S) : runOps call (o d (.ld n x) :: r) s = andThen (stepO call s (some d) (.ld n x)) (runOps call r) := rfl
theorem runOps_nc (d : Nat) (x : Opd) (r : List POp) (s : S) : runOps call (o d (.nc x) :: r) s = andThen (stepO call s (some d) (.nc x)) (runOps call r) := rfl
theorem runOps_fa (d : Nat) (a : Nat) (x : Opd) (r : List POp) (s : S) : runOps call (o d (.fa a x) :: r) s = andThen (stepO call s (some d) (.fa a x)) (runOps call r) := rfl
theorem runOps_ext (d : Nat) (x : Opd) (j : Nat) (r : List POp) (s : S) : runOps call (o d (.ext x j) :: r) s = andThen (stepO call s (some d) (.ext x j)) (runOps call r) := rfl
theorem runOps_mkf (d : Nat) (f : FuncId) (l : List Opd) (r : List POp) (s : S) : runOps call (o d (.mkf f l) :: r) s = andThen (stepO call s (some d) (.mkf f l)) (runOps call r) := rfl
theorem runOps_mn (d : Nat) (x y : Opd) (r : List POp) (s : S) : runOps call (o d (.mn x y) :: r) s = andThen (stepO call s (some d) (.mn x y)) (runOps call r) := rfl
theorem runOps_mx (d : Nat) (x y : Opd) (r : List POp) (s : S) : runOps call (o d (.mx x y) :: r) s = andThen (stepO call s (some d) (.mx x y)) (runOps call r) := rfl
theorem runOps_ixa (d : Nat) (n : Option Nat) (sz len : Nat) (x i : Opd) (r : List POp) (s : S) : runOps call (o d (.ixa n sz len x i) :: r) s = andThen (stepO call s (some d) (.ixa n sz len x i)) (runOps call r) := rfl
theorem runOps_sto (n : Nat) (x y : Opd) (r : List POp) (s : S) : runOps call (on (.sto n x y) :: r) s = andThen (stepO call s none (.sto n x y)) (runOps call r) := rfl
theorem W_o {d : Nat} {x : PO} {r : List POp} {s : S} {Q : Out × S → Prop}
    (h : ∀ K : Out × S → Prop, (∀ s, W (runOps call r s) Q → K (.nx, s)) → (∀ v s, Q (.pn v, s) → K (.pn v, s)) → W (stepO call s (some d) x) (fun p => match p.1 with
      | .nx => K p
      | .pn _ => K p
      | _ => Q p)) : W (runOps call (o d x :: r) s) Q := by
  rw [runOps_o]
  refine W_andThen fun K h1 h2 h3 h4 => W_mono (h (fun p => match p.1 with
    | .nx => K p
    | .pn _ => K p
    | _ => True) (fun s h => h1 s h) (fun v s h => h4 v s h)) ?_
  rintro ⟨o, s⟩ hp
  cases o with
  | nx => exact hp
  | pn v => exact hp
  | ex i => exact h2 i s hp
  | rt => exact h3 s hp
theorem W_on {x : PO} {r : List POp} {s : S} {Q : Out × S → Prop}
    (h : ∀ K : Out × S → Prop, (∀ s, W (runOps call r s) Q → K (.nx, s)) → (∀ v s, Q (.pn v, s) → K (.pn v, s)) → W (stepO call s none x) (fun p => match p.1 with
      | .nx => K p
      | .pn _ => K p
      | _ => Q p)) : W (runOps call (on x :: r) s) Q := by
  rw [runOps_on]
  refine W_andThen fun K h1 h2 h3 h4 => W_mono (h (fun p => match p.1 with
    | .nx => K p
    | .pn _ => K p
    | _ => True) (fun s h => h1 s h) (fun v s h => h4 v s h)) ?_
  rintro ⟨o, s⟩ hp
  cases o with
  | nx => exact hp
  | pn v => exact hp
  | ex i => exact h2 i s hp
  | rt => exact h3 s hp
theorem W_ogt {d : Nat} {j : Nat} {x : PO} {r : List POp} {s : S} {Q : Out × S → Prop} {c : Bool} (hg : get s.env j = .im (.b c))
    (h : c = true → W (runOps call (o d x :: r) s) Q) (k : c = false → W (runOps call r (s.put (some d) (.tp []))) Q) : W (runOps call (og (some d) j true x :: r) s) Q := by
  rw [runOps_og, hg, guarded_t]
  exact W_ifB h k
theorem W_ogf {d : Nat} {j : Nat} {x : PO} {r : List POp} {s : S} {Q : Out × S → Prop} {c : Bool} (hg : get s.env j = .im (.b c))
    (h : c = false → W (runOps call (o d x :: r) s) Q) (k : c = true → W (runOps call r (s.put (some d) (.tp []))) Q) : W (runOps call (og (some d) j false x :: r) s) Q := by
  rw [runOps_og, hg, guarded_f]
  exact W_ifB k h
theorem W_chk {c : Bool} {x : Option (Out × S)} {Q : Out × S → Prop} (hc : c = true) (h : W x Q) : W (ifB c x none) Q := by
  subst hc
  exact h
theorem W_pick {d : Nat} {c a b : Opd} {r : List POp} {s : S} {Q : Out × S → Prop} {x : Bool} (hg : ev s.env c = .im (.b x))
    (h : x = true → W (runOps call r (s.put (some d) (ev s.env a))) Q) (k : x = false → W (runOps call r (s.put (some d) (ev s.env b))) Q) : W (runOps call (o d (.pick c a b) :: r) s) Q := by
  have e : runOps call (o d (.pick c a b) :: r) s = ifB x (runOps call r (s.put (some d) (ev s.env a))) (runOps call r (s.put (some d) (ev s.env b))) := by
    have e2 : stepO call s (some d) (.pick c a b) = ifB x (go (s.put (some d) (ev s.env a))) (go (s.put (some d) (ev s.env b))) := by simp only [stepO, hg]
    rw [runOps_o, e2]
    cases x <;> rfl
  rw [e]
  exact W_ifB h k
theorem W_cd {c : Opd} {a b : PC} {s : S} {Q : Out × S → Prop} {x : Bool} (hc : ev s.env c = .im (.b x)) (h : x = true → W (run call loop a s) Q) (k : x = false → W (run call loop b s) Q) : W (run call loop (.cd c a b) s) Q := by
  rw [run_cd, hc]
  exact W_ifB h k
theorem W_bk {id : Nat} {a : PC} {s : S} {Q : Out × S → Prop}
    (h : ∀ K : Out × S → Prop, (∀ s, Q (.nx, s) → K (.nx, s)) → (∀ s, Q (.nx, s) → K (.ex id, s)) → (∀ i s, Q (.ex i, s) → i ≠ id → K (.ex i, s)) → (∀ s, Q (.rt, s) → K (.rt, s)) → (∀ v s, Q (.pn v, s) → K (.pn v, s)) → W (run call loop a s) K) :
    W (run call loop (.bk id a) s) Q := by
  rw [run_bk]
  obtain ⟨p, hp, hq⟩ := h (fun p => W (leave id (some p)) Q) (fun s h => W_some h) (fun s h => by rw [leave_ex]; simp only [beq_self_eq_true, cond_true]; exact W_some h)
    (fun i s h hn => by rw [leave_ex, beq_false_of_ne hn]; exact W_some h) (fun s h => W_some h) (fun v s h => W_some h)
  rw [hp]
  exact hq
theorem W_enter {pf : PF} {args : List V} {obs : Obs} {r : Res} (hn : (args.length == pf.np && decide (obs.length ≤ 1000) && (obs.zipIdx.all fun x => x.1.1 == x.2)) = true)
    (h : ∀ K : Out × S → Prop, (∀ s, finish pf obs.length s = some r → K (.nx, s)) → (∀ s, finish pf obs.length s = some r → K (.rt, s)) → (∀ v s, fend pf obs.length (some (.pn v, s)) = some r → K (.pn v, s)) →
      W (run call loop pf.code ⟨zipEnv 0 args, obs⟩) K) : enter call loop pf args obs = some r := by
  obtain ⟨p, hp, hq⟩ := h (fun p => fend pf obs.length (some p) = some r) (fun _ h => h) (fun _ h => h) (fun _ _ h => h)
  unfold enter
  rw [hp, hn]
  simpa using hq
end

theorem ifB_congr2 {c c' : Bool} {x x' y y' : α} (h : c = c') (hx : c' = true → x = x') (hy : c' = false → y = y') : ifB c x y = ifB c' x' y' := by
  subst h
  cases c
  · exact hy rfl
  · exact hx rfl
theorem elem_nil (a : Nat) : List.elem a [] = false := rfl
theorem elem_cons (a b : Nat) (l : List Nat) : List.elem a (b :: l) = bif a == b then true else List.elem a l := by
  simp only [List.elem]
  cases a == b <;> rfl
theorem getE?_zero (v : V) (l : List V) : (v :: l)[0]? = some v := rfl
theorem getE?_succ (v : V) (l : List V) (n : Nat) : (v :: l)[n + 1]? = l[n]? := by simp

theorem getI_i (k : IntKind) (n : Int) : getI (.i k n) = n := rfl
theorem getB_b (x : Bool) : getB (.b x) = x := rfl
theorem getS_s (l : List UInt8) : getS (.s l) = l := rfl
theorem getBy_by (z : Bool) (l : List UInt8) : getBy (.by_ z l) = l := rfl
theorem getL_sl (z : Bool) (e : TypeId) (l : List T) : getL (.sl z e l) = l := rfl
theorem getZ_sl (z : Bool) (e : TypeId) (l : List T) : getZ (.sl z e l) = z := rfl
theorem getZ_by (z : Bool) (l : List UInt8) : getZ (.by_ z l) = z := rfl
theorem cells_ag (l : List T) : T.cells (.ag l) = l := rfl
theorem etaL_i (k : IntKind) (x : T) : etaL (.i k) x = .i k (getI x) := rfl
theorem etaL_b (x : T) : etaL .b x = .b (getB x) := rfl
theorem etaL_s (x : T) : etaL .s x = .s (getS x) := rfl
theorem etaL_by (x : T) : etaL .by_ x = .by_ (getZ x) (getBy x) := rfl
theorem etaL_sl (e : TypeId) (x : T) : etaL (.sl e) x = .sl (getZ x) e (getL x) := rfl
theorem etaL_o (x : T) : etaL .o x = x := rfl
attribute [go_sem] ifB_true ifB_false bind_ifB bind_some' bind_none' map_some' map_ifB andThen_nx andThen_ex andThen_rt andThen_pn andThen_none andThen_ifB
  leave_nx leave_ex leave_rt leave_pn leave_none leave_ifB fend_nx fend_rt fend_pn fend_none fend_ifB behind_nx behind_pn behind_none behind_ifB runT_done both_self runOps_nil runOps_sto runOps_mv runOps_cm runOps_ar runOps_eqb runOps_eqp runOps_eqs runOps_not runOps_neg runOps_cv runOps_toS runOps_toB runOps_cvb runOps_len runOps_cvs runOps_fld runOps_bld runOps_bsl runOps_al runOps_bx runOps_ld runOps_nc runOps_fa runOps_ext runOps_mkf runOps_mn runOps_mx runOps_ixa branch_b get_cons W_some_iff W_none_iff
  get obAt obSet obDel S.put ev evs V.ids V.idsL Ob.ids S.free V.ren V.renL Ob.ren V.snap V.snapL V.snap1 V.snap1L Ob.snap1 S.fast S.fasts         etaC byteT
  intOp cmpOp shOp strOp eqLeaf eqLeaves cutL idxOf tlen cutT toT allT elemT appT setT spread joinT nid go S.newIn S.new owner ownerL reachO posOf pickObs mapIds V.plain V.known okLeaf okLeaves okElem backId S.back setCells V.cells
  fillT evp elemsT rowT ldV rowCells isS skOk sliceLen nilT byOf V.cellsOk mkElem stepO prune envSet thaw1 thaw fastBut addMap mapEnv lookN mapCells mapObs S.allIds injOn S.ren S.gc norm resV resVs flatV getMany packV closeF close finish zipEnv
  cond_true cond_false List.map List.flatMap_cons List.flatMap_nil List.append_nil List.nil_append List.cons_append List.filterMap List.any List.all List.filter List.length Option.getD Option.map
  Bool.or_false Bool.false_or Bool.not_true Bool.not_false beq_self_eq_true Bool.and_true Bool.true_and Bool.and_self List.isEmpty_nil elem_nil elem_cons getE?_zero getE?_succ Option.isSome List.range List.range.loop
  List.headD List.tail List.drop List.take
attribute [go_sem] getI_i getB_b getS_s getBy_by getL_sl getZ_sl getZ_by cells_ag etaL_i etaL_b etaL_s etaL_by etaL_sl etaL_o if_true if_false Bool.false_eq_true Nat.zero_add Nat.add_zero List.length_map List.length_cons List.length_nil List.zipIdx_cons List.zipIdx_nil Int.toNat_natCast List.set_cons_zero List.set_cons_succ List.getD_cons_zero List.getD_cons_succ decide_true decide_false
end Go.Proofs.Av
end
section
namespace Go.Proofs.Av
open Go.RowKit

/-! ### What the program says of types -/
def catLeaves (f : TypeId → Option (List LK)) : List Field → Option (List LK)
  | [] => some []
  | x :: r => (f x.type).bind fun a => (catLeaves f r).map fun b => a ++ b
def leavesN (P : Program) : Nat → TypeId → Option (List LK)
  | 0, _ => none
  | n + 1, t => match P.underlying t with
    | some (.int k) => some [.i k]
    | some .bool => some [.b]
    | some .string => some [.s]
    | some (.slice e) => match P.underlying e with
      | some (.int .u8) => some [.by_]
      | _ => some [.sl e]
    | some (.struct fs) => catLeaves (leavesN P n) fs.toList
    | some (.array k e) => (leavesN P n e).map fun l => (List.replicate k l).flatten
    | some _ => some [.o]
    | none => none
def isAggT (P : Program) (t : TypeId) : Bool := match P.underlying t with
  | some (.struct _) => true
  | some (.array _ _) => true
  | _ => false
/-- An element type's form. -/
def kindE (P : Program) (e : TypeId) : Option (Bool × List LK) :=
  match leavesN P 60 e, (P.info? e).map (·.size) with
  | some ls, some n => if ls.length = n ∧ 0 < n then some (isAggT P e, ls) else none
  | _, _ => none

def elemsOf : T → List T
  | .sl _ _ xs => xs
  | .by_ _ l => l.map byteT
  | _ => []
def byteV (x : UInt8) : Value := .int .u8 (x.toNat : Int)
/-- The cells at a place, nobody writing them. -/
def Cells (w : World) (A : Nat → Prop) (a : Option Addr) (cs : List Value) : Prop :=
  cs = [] ∨ ∃ ad, a = some ad ∧ A ad.block ∧ ∀ j u, cs[j]? = some u → w.cell? (ad.add j) = some u

section
variable (P : Program) (w : World) (A : Nat → Prop)
mutual
/-- A datum, and the cells that hold it. -/
def R : T → List Value → Prop
  | .i k n, us => us = [.int k n] ∧ k.min ≤ n ∧ n ≤ k.max
  | .b x, us => us = [.bool x]
  | .s l, us => us = [.string ⟨l.toArray⟩] ∧ l.length ≤ maxLen
  | .by_ z l, us => ∃ a c, us = [.slice a l.length c] ∧ l.length ≤ c ∧ c ≤ maxLen ∧ ((z = true → a = none ∧ c = 0) ∧ (a = none → c = 0)) ∧ Cells w A a (l.map byteV)
  | .sl z e xs, us => ∃ a c cs, us = [.slice a xs.length c] ∧ xs.length ≤ c ∧ c ≤ maxLen ∧ (z = true → a = none ∧ c = 0) ∧ Cells w A a cs ∧ Rs xs cs ∧
      ∃ agg ls, kindE P e = some (agg, ls) ∧ ∀ x ∈ xs, okElem agg ls x = true
  | .ag cs, us => Rs cs us
  | .o v, us => us = [v] ∧ v.oneCell' = true
def Rs : List T → List Value → Prop
  | [], us => us = []
  | x :: r, us => ∃ u1 u2, us = u1 ++ u2 ∧ R x u1 ∧ Rs r u2
end
variable (g : Nat → Value)
mutual
def RV : V → Value → Prop
  | .un, _ => True
  | .im t, u => R P w A t [u]
  | .ip ts, u => ∃ a us, u = .pointer (some a) ∧ Cells w A (some a) us ∧ Rs P w A ts us ∧ ∀ x ∈ ts, ∀ cs, x ≠ .ag cs
  | .rf o c, u => ∃ b, g o = .pointer (some ⟨b, 0, none⟩) ∧ u = .pointer (some ⟨b, c, none⟩)
  | .ow o, u => u = g o ∧ ∃ a n c, u = .slice a n c
  | .re o k agg ls j c, u => ∃ b n cap, g o = .slice (some ⟨b, 0, none⟩) n cap ∧ j < n ∧ u = .pointer (some ⟨b, j * ls.length + c, none⟩) ∧ match k with
      | .s => False
      | .by_ => agg = false ∧ ls = [.i .u8]
      | .sl e => kindE P e = some (agg, ls)
  | .fn f vs, u => ∃ us, u = .func (.func f) #[] us ∧ RVs vs us.toList
  | .ag vs, u => ∃ us, u = .agg us ∧ RVs vs us.toList
  | .tp vs, u => ∃ us, u = .tuple us ∧ RVs vs us.toList
def RVs : List V → List Value → Prop
  | [], us => us = []
  | v :: r, us => ∃ u us', us = u :: us' ∧ RV v u ∧ RVs r us'
end
/-- An object, and the block that holds it. -/
def RO (o : Nat) : Ob → Prop
  | .box vs => ∃ b us e, g o = .pointer (some ⟨b, 0, none⟩) ∧ w.heap[b]? = some (.cells us e (0, 0)) ∧ RVs P w A g vs us.toList
  | .row e t => ∃ n us sz, w.ownsRow 0 e sz (g o) n us ∧ 0 < sz ∧ (P.info? e).map (·.size) = some sz ∧ tlen t = some n ∧ Rs P w A (elemsOf t) us ∧
      (match t with
        | .sl z e' xs => z = false ∧ e' = e ∧ ∃ agg ls, kindE P e = some (agg, ls) ∧ ∀ x ∈ xs, okElem agg ls x = true
        | .by_ z _ => z = false ∧ sz = 1 ∧ P.underlying e = some (.int .u8)
        | _ => False)
end
end Go.Proofs.Av
end
section
namespace Go.Proofs.Av
open Go.RowKit
section
variable {P : Program} {w w' : World} {A A' : Nat → Prop} {g g' : Nat → Value}

theorem Cells.keepC (H : ∀ b, A b → b < w.heap.size → (∀ p : Addr, p.block = b → w'.cell? p = w.cell? p) ∧ A' b) {a : Option Addr} {cs : List Value} (h : Cells w A a cs) : Cells w' A' a cs := by
  rcases h with h | ⟨ad, ha, hA, hc⟩
  · exact .inl h
  · cases cs with
    | nil => exact .inl rfl
    | cons u r =>
      have h0 := hc 0 u rfl
      have hb : (ad.add 0).block < w.heap.size := World.block_lt_of_cell? w _ h0
      have hb' : ad.block < w.heap.size := by simpa [Addr.add] using hb
      obtain ⟨h1, h2⟩ := H _ hA hb'
      refine .inr ⟨ad, ha, h2, fun j u hu => ?_⟩
      rw [h1 (ad.add j) (by unfold Addr.add; split <;> rfl)]
      exact hc j u hu

mutual
theorem R.keepC (H : ∀ b, A b → b < w.heap.size → (∀ p : Addr, p.block = b → w'.cell? p = w.cell? p) ∧ A' b) : ∀ (t : T) (us : List Value), R P w A t us → R P w' A' t us
  | .i _ _, _, h => h
  | .b _, _, h => h
  | .s _, _, h => h
  | .by_ _ _, _, h => by
    simp only [R] at h ⊢
    obtain ⟨a, c, h1, h2, h3, h4, h5⟩ := h
    exact ⟨a, c, h1, h2, h3, h4, h5.keepC H⟩
  | .sl _ _ xs, _, h => by
    simp only [R] at h ⊢
    obtain ⟨a, c, cs, h1, h2, h3, h4, h5, h6, h7⟩ := h
    exact ⟨a, c, cs, h1, h2, h3, h4, h5.keepC H, Rs.keepC H xs cs h6, h7⟩
  | .ag cs, us, h => by
    simp only [R] at h ⊢
    exact Rs.keepC H cs us h
  | .o _, _, h => h
theorem Rs.keepC (H : ∀ b, A b → b < w.heap.size → (∀ p : Addr, p.block = b → w'.cell? p = w.cell? p) ∧ A' b) : ∀ (ts : List T) (us : List Value), Rs P w A ts us → Rs P w' A' ts us
  | [], _, h => h
  | x :: r, _, h => by
    simp only [Rs] at h ⊢
    obtain ⟨u1, u2, h1, h2, h3⟩ := h
    exact ⟨u1, u2, h1, R.keepC H x u1 h2, Rs.keepC H r u2 h3⟩
end

mutual
theorem RV.keepC (H : ∀ b, A b → b < w.heap.size → (∀ p : Addr, p.block = b → w'.cell? p = w.cell? p) ∧ A' b) : ∀ (v : V) (u : Value), (∀ o ∈ v.ids, g' o = g o) → RV P w A g v u → RV P w' A' g' v u
  | .un, _, _, _ => trivial
  | .im t, u, _, h => R.keepC H t [u] h
  | .ip ts, _, _, h => by
    simp only [RV] at h ⊢
    obtain ⟨a, us, h1, h2, h3, h4⟩ := h
    exact ⟨a, us, h1, h2.keepC H, Rs.keepC H ts us h3, h4⟩
  | .rf o c, _, hg, h => by
    simp only [RV] at h ⊢
    rw [hg o (by simp [V.ids])]
    exact h
  | .ow o, _, hg, h => by
    simp only [RV] at h ⊢
    rw [hg o (by simp [V.ids])]
    exact h
  | .re o _ _ _ _ _, _, hg, h => by
    simp only [RV] at h ⊢
    rw [hg o (by simp [V.ids])]
    exact h
  | .fn _ vs, _, hg, h => by
    simp only [RV] at h ⊢
    obtain ⟨us, h1, h2⟩ := h
    exact ⟨us, h1, RVs.keepC H vs us.toList (fun o ho => hg o (by simpa [V.ids] using ho)) h2⟩
  | .ag vs, _, hg, h => by
    simp only [RV] at h ⊢
    obtain ⟨us, h1, h2⟩ := h
    exact ⟨us, h1, RVs.keepC H vs us.toList (fun o ho => hg o (by simpa [V.ids] using ho)) h2⟩
  | .tp vs, _, hg, h => by
    simp only [RV] at h ⊢
    obtain ⟨us, h1, h2⟩ := h
    exact ⟨us, h1, RVs.keepC H vs us.toList (fun o ho => hg o (by simpa [V.ids] using ho)) h2⟩
theorem RVs.keepC (H : ∀ b, A b → b < w.heap.size → (∀ p : Addr, p.block = b → w'.cell? p = w.cell? p) ∧ A' b) : ∀ (vs : List V) (us : List Value), (∀ o ∈ V.idsL vs, g' o = g o) → RVs P w A g vs us → RVs P w' A' g' vs us
  | [], _, _, h => h
  | v :: r, _, hg, h => by
    simp only [RVs] at h ⊢
    obtain ⟨u, us', h1, h2, h3⟩ := h
    exact ⟨u, us', h1, RV.keepC H v u (fun o ho => hg o (by simp [V.idsL, ho])) h2, RVs.keepC H r us' (fun o ho => hg o (by simp [V.idsL, ho])) h3⟩
end

theorem Hc {w w' : World} {A A' : Nat → Prop} (H : ∀ b, A b → b < w.heap.size → w'.heap[b]? = w.heap[b]? ∧ A' b) : ∀ b, A b → b < w.heap.size → (∀ p : Addr, p.block = b → w'.cell? p = w.cell? p) ∧ A' b :=
  fun b hb hl => ⟨fun p hp => World.cell?_of_block (w := w) (by rw [hp]; exact (H b hb hl).1), (H b hb hl).2⟩
theorem Cells.keep (H : ∀ b, A b → b < w.heap.size → w'.heap[b]? = w.heap[b]? ∧ A' b) {a : Option Addr} {cs : List Value} (h : Cells w A a cs) : Cells w' A' a cs := h.keepC (Hc H)
theorem R.keep (H : ∀ b, A b → b < w.heap.size → w'.heap[b]? = w.heap[b]? ∧ A' b) (t : T) (us : List Value) (h : R P w A t us) : R P w' A' t us := R.keepC (Hc H) t us h
theorem Rs.keep (H : ∀ b, A b → b < w.heap.size → w'.heap[b]? = w.heap[b]? ∧ A' b) (ts : List T) (us : List Value) (h : Rs P w A ts us) : Rs P w' A' ts us := Rs.keepC (Hc H) ts us h
theorem RV.keep (H : ∀ b, A b → b < w.heap.size → w'.heap[b]? = w.heap[b]? ∧ A' b) (v : V) (u : Value) (hg : ∀ o ∈ v.ids, g' o = g o) (h : RV P w A g v u) : RV P w' A' g' v u := RV.keepC (Hc H) v u hg h
theorem RVs.keep (H : ∀ b, A b → b < w.heap.size → w'.heap[b]? = w.heap[b]? ∧ A' b) (vs : List V) (us : List Value) (hg : ∀ o ∈ V.idsL vs, g' o = g o) (h : RVs P w A g vs us) : RVs P w' A' g' vs us := RVs.keepC (Hc H) vs us hg h

/-! ### Cells of data -/
theorem R.one {t : T} {us : List Value} (h : R P w A t us) (hn : ∀ cs, t ≠ .ag cs) : ∃ u, us = [u] ∧ u.oneCell' = true := by
  cases t with
  | i k n => exact ⟨_, h.1, rfl⟩
  | b x => exact ⟨_, h, rfl⟩
  | s l => exact ⟨_, h.1, rfl⟩
  | by_ z l => obtain ⟨a, c, h1, _⟩ := h; exact ⟨_, h1, rfl⟩
  | sl z e xs => simp only [R] at h; obtain ⟨a, c, cs, h1, _⟩ := h; exact ⟨_, h1, rfl⟩
  | ag cs => exact absurd rfl (hn cs)
  | o v => exact ⟨_, h.1, h.2⟩
theorem okLeaf_ne {l : LK} {x : T} (h : okLeaf l x = true) : ∀ cs, x ≠ .ag cs := by
  rintro cs rfl
  cases l <;> simp [okLeaf] at h
theorem Rs.leaves : ∀ {ls : List LK} {cs : List T} {us : List Value}, okLeaves ls cs = true → Rs P w A cs us → us.length = ls.length ∧ ∀ u ∈ us, u.oneCell' = true
  | [], [], us, _, h => by simp only [Rs] at h; subst h; simp
  | l :: ls, x :: xs, us, ho, h => by
    simp only [Rs] at h
    obtain ⟨u1, u2, rfl, h2, h3⟩ := h
    simp only [okLeaves, Bool.and_eq_true] at ho
    obtain ⟨u, rfl, hu⟩ := h2.one (okLeaf_ne ho.1)
    obtain ⟨hl, hr⟩ := Rs.leaves ho.2 h3
    refine ⟨by simp [hl], fun v hv => ?_⟩
    simp only [List.singleton_append, List.mem_cons] at hv
    rcases hv with rfl | hv
    · exact hu
    · exact hr v hv
  | [], _ :: _, _, ho, _ => by simp [okLeaves] at ho
  | _ :: _, [], _, ho, _ => by simp [okLeaves] at ho
theorem okElem_agg {ls : List LK} {x : T} (h : okElem true ls x = true) : ∃ cs, x = .ag cs ∧ okLeaves ls cs = true := by
  cases x <;> simp [okElem] at h
  exact ⟨_, rfl, h⟩
theorem okElem_one {ls : List LK} {x : T} (h : okElem false ls x = true) : okLeaves ls [x] = true := by simpa [okElem] using h
theorem R.elem {agg : Bool} {ls : List LK} {x : T} {us : List Value} (ho : okElem agg ls x = true) (h : R P w A x us) : us.length = ls.length ∧ ∀ u ∈ us, u.oneCell' = true := by
  cases agg with
  | true => obtain ⟨cs, rfl, hc⟩ := okElem_agg ho; exact Rs.leaves hc h
  | false => exact Rs.leaves (okElem_one ho) ⟨us, [], by simp, h, rfl⟩
/-- The cells of a list of elements: each has its share. -/
theorem Rs.elems {agg : Bool} {ls : List LK} : ∀ {xs : List T} {us : List Value}, (∀ x ∈ xs, okElem agg ls x = true) → Rs P w A xs us →
    us.length = xs.length * ls.length ∧ (∀ u ∈ us, u.oneCell' = true) ∧ ∀ j x, xs[j]? = some x → R P w A x ((us.drop (j * ls.length)).take ls.length)
  | [], us, _, h => by simp only [Rs] at h; subst h; simp
  | x :: r, us, ho, h => by
    simp only [Rs] at h
    obtain ⟨u1, u2, rfl, h2, h3⟩ := h
    obtain ⟨l1, o1⟩ := h2.elem (ho x (by simp))
    obtain ⟨l2, o2, e2⟩ := Rs.elems (fun y hy => ho y (by simp [hy])) h3
    refine ⟨by simp [l1, l2, Nat.add_mul, Nat.add_comm], fun u hu => ?_, fun j y hy => ?_⟩
    · simp only [List.mem_append] at hu
      rcases hu with hu | hu
      · exact o1 u hu
      · exact o2 u hu
    · cases j with
      | zero =>
        simp only [List.getElem?_cons_zero, Option.some.injEq] at hy
        subst hy
        simpa [l1] using h2
      | succ j =>
        simp only [List.getElem?_cons_succ] at hy
        have := e2 j y hy
        have e : (u1 ++ u2).drop ((j + 1) * ls.length) = u2.drop (j * ls.length) := by
          rw [Nat.add_mul, Nat.one_mul, Nat.add_comm, ← List.drop_drop, List.drop_append_of_le_length (by omega)]
          simp [← l1]
        rw [e]
        exact this
theorem Rs.append : ∀ {xs ys : List T} {us vs : List Value}, Rs P w A xs us → Rs P w A ys vs → Rs P w A (xs ++ ys) (us ++ vs)
  | [], _, _, _, h, k => by simp only [Rs] at h; subst h; exact k
  | x :: r, ys, us, vs, h, k => by
    simp only [Rs] at h
    obtain ⟨u1, u2, rfl, h2, h3⟩ := h
    simp only [List.cons_append, Rs]
    exact ⟨u1, u2 ++ vs, by simp, h2, Rs.append h3 k⟩
theorem Rs.bytes : ∀ (l : List UInt8), Rs P w A (l.map byteT) (l.map byteV)
  | [] => rfl
  | x :: r => by
    have hx := x.toNat_lt
    exact ⟨[byteV x], r.map byteV, rfl, ⟨rfl, by simp [IntKind.min, IntKind.signed], by simp [IntKind.max, IntKind.signed, IntKind.bits]; omega⟩, Rs.bytes r⟩
theorem Rs.bytes_eq : ∀ {l : List UInt8} {us : List Value}, Rs P w A (l.map byteT) us → us = l.map byteV
  | [], us, h => h
  | x :: r, us, h => by
    simp only [List.map_cons, Rs] at h
    obtain ⟨u1, u2, rfl, h2, h3⟩ := h
    have e1 : u1 = [byteV x] := h2.1
    rw [e1, Rs.bytes_eq h3]
    rfl
theorem Rs.drop {agg : Bool} {ls : List LK} {xs : List T} {us : List Value} (ho : ∀ x ∈ xs, okElem agg ls x = true) : ∀ (n : Nat), Rs P w A xs us → Rs P w A (xs.drop n) (us.drop (n * ls.length)) := by
  intro n
  induction n generalizing xs us with
  | zero => intro h; simpa using h
  | succ n ih =>
    intro h
    cases xs with
    | nil => simp only [Rs] at h; subst h; simp [Rs]
    | cons x r =>
      simp only [Rs] at h
      obtain ⟨u1, u2, rfl, h2, h3⟩ := h
      obtain ⟨l1, _⟩ := h2.elem (ho x (by simp))
      have := ih (fun y hy => ho y (by simp [hy])) h3
      have e : (u1 ++ u2).drop ((n + 1) * ls.length) = u2.drop (n * ls.length) := by
        rw [Nat.add_mul, Nat.one_mul, Nat.add_comm, ← List.drop_drop, List.drop_append_of_le_length (by omega)]
        simp [← l1]
      rw [e]
      simpa using this
theorem Rs.take {agg : Bool} {ls : List LK} {xs : List T} {us : List Value} (ho : ∀ x ∈ xs, okElem agg ls x = true) : ∀ (n : Nat), Rs P w A xs us → Rs P w A (xs.take n) (us.take (n * ls.length)) := by
  intro n
  induction n generalizing xs us with
  | zero => intro h; simp [Rs]
  | succ n ih =>
    intro h
    cases xs with
    | nil => simp only [Rs] at h; subst h; simp [Rs]
    | cons x r =>
      simp only [Rs] at h
      obtain ⟨u1, u2, rfl, h2, h3⟩ := h
      obtain ⟨l1, _⟩ := h2.elem (ho x (by simp))
      have := ih (fun y hy => ho y (by simp [hy])) h3
      have e : (u1 ++ u2).take ((n + 1) * ls.length) = u1 ++ u2.take (n * ls.length) := by
        rw [List.take_append, l1, List.take_of_length_le (by rw [l1, Nat.add_mul]; omega), Nat.add_mul, Nat.one_mul, Nat.add_sub_cancel]
      rw [e]
      exact ⟨u1, _, rfl, h2, this⟩
end
end Go.Proofs.Av
end
section
namespace Go.Proofs.Av
def litOk : T → Value → Bool
  | .i k n, .int k' m => k == k' && n == m && decide (k.min ≤ n) && decide (n ≤ k.max)
  | .b x, .bool y => x == y
  | .s l, .string s => l == s.data.toList && decide (l.length ≤ 1000000)
  | .by_ z l, .slice none 0 0 => z && l.isEmpty
  | .o (.pointer none), .pointer none => true
  | .o .nilIface, .nilIface => true
  | .o .nilFunc, .nilFunc => true
  | .o (.map none), .map none => true
  | _, _ => false
def okOpd (P : Program) : Operand → Opd → Bool
  | .tmp n, .t m => n == m
  | .const (.slice none 0 0), .c (.sl z e xs) => z && xs.isEmpty && (kindE P e).isSome
  | .const v, .c t => litOk t v
  | .func f, .f k => f == k
  | _, _ => false
def okOpds (P : Program) : List Operand → List Opd → Bool
  | [], [] => true
  | x :: xs, y :: ys => okOpd P x y && okOpds P xs ys
  | _, _ => false
def okOpt (P : Program) : Option Operand → Option Opd → Bool
  | none, none => true
  | some x, some y => okOpd P x y
  | _, _ => false
def isInt (P : Program) (t : TypeId) (k : IntKind) : Bool := match P.underlying t with
  | some (.int k') => k == k'
  | _ => false
def isStr (P : Program) (t : TypeId) : Bool := match P.underlying t with
  | some .string => true
  | _ => false
def isBoolT (P : Program) (t : TypeId) : Bool := match P.underlying t with
  | some .bool => true
  | _ => false
def elemT? (P : Program) (t : TypeId) : Option TypeId := match P.underlying t with
  | some (.slice e) => some e
  | _ => none
def isU8 (P : Program) (t : TypeId) : Bool := isInt P t .u8
def isBySl (P : Program) (t : TypeId) : Bool := match elemT? P t with
  | some e => isU8 P e && (P.info? e).map (·.size) == some 1
  | none => false
def skT (P : Program) (t : TypeId) : SK → Bool
  | .s => isStr P t
  | .by_ => isBySl P t
  | .sl e => elemT? P t == some e
def sizeT (P : Program) (t : TypeId) : Option Nat := (P.info? t).map (·.size)
/-- How a value of a type is loaded: one cell, or several. -/
def okN (P : Program) (t : TypeId) (n : Option Nat) : Bool := match n with
  | none => !(isAggT P t) && (P.underlying t).isSome && (match P.underlying t with
    | some (.struct _) => false
    | some (.array _ _) => false
    | some _ => true
    | none => false)
  | some k => isAggT P t && sizeT P t == some k
def fieldOff (P : Program) (t : TypeId) (f : Nat) : Option (Nat × TypeId) := match P.underlying t with
  | some (.struct fs) => (fs[f]?).map fun x => (x.offset, x.type)
  | _ => none
def isArith : BinOp → Bool
  | .add | .sub | .mul | .quo | .rem | .and | .or | .xor | .andNot => true
  | _ => false
def isCmp : BinOp → Bool
  | .eql | .neq | .lss | .leq | .gtr | .geq => true
  | _ => false
def isEq (b : Bool) : BinOp → Bool
  | .eql => b
  | .neq => !b
  | _ => false
def litsOk : List T → List Value → Bool
  | [], [] => true
  | .sl z _ xs :: ts, .slice none 0 0 :: vs => z && xs.isEmpty && litsOk ts vs
  | t :: ts, v :: vs => litOk t v && litsOk ts vs
  | _, _ => false
def slsOk (P : Program) : List T → Bool
  | [] => true
  | .sl _ e _ :: r => (kindE P e).isSome && slsOk P r
  | _ :: r => slsOk P r
/-- The zero value of a type. -/
def zeroOk (P : Program) (t : TypeId) (zs : List T) : Bool := slsOk P zs && match (P.info? t).map (·.zero) with
  | some (some v) => litsOk zs v.cells.toList
  | _ => false
def partsOk (P : Program) (f : Nat → Option (Nat × Nat)) : List (Nat × Operand) → List (Nat × Nat × Opd) → Bool
  | [], [] => true
  | (j, x) :: r, (off, n, y) :: q => okOpd P x y && f j == some (off, n) && partsOk P f r q
  | _, _ => false
def placesOf (P : Program) (t : TypeId) : Option (Nat → Option (Nat × Nat)) := match P.underlying t with
  | some (.struct fs) => (fs.toList.mapM fun f => (P.info? f.type).map fun i => (f.offset, i.size)).map fun l j => l.toArray[j]?
  | some (.array _ e) => (P.info? e).map fun i j => some (j * i.size, i.size)
  | _ => none
def isNilS : Operand → Bool
  | .const (.slice none 0 0) => true
  | _ => false
def isNilP : Operand → Bool
  | .const (.pointer none) => true
  | _ => false
def isPtr (P : Program) (t : TypeId) : Bool := match P.underlying t with
  | some (.pointer _) => true
  | _ => false
/-- The fields of a struct type, each of a single kind that is compared plainly, in the order of the cells. -/
def eqFieldsOk (P : Program) : Nat → List Field → List LK → Bool
  | _, [], [] => true
  | n, f :: r, l :: ls => !(f.name == "_") && f.offset == n && (match P.underlying f.type, l with
    | some (.int k), .i k' => k == k'
    | some .bool, .b => true
    | some .string, .s => true
    | _, _ => false) && eqFieldsOk P (n + 1) r ls
  | _, _, _ => false
def idxParts : Nat → List (Nat × Operand) → Option (List Operand)
  | _, [] => some []
  | n, (j, x) :: r => if j = n then (idxParts (n + 1) r).map fun l => x :: l else none
def okBody (P : Program) (f : FuncId) : Bool := match P.funcs[f]? with
  | some fn => fn.body.isSome && !(fn.name == "runtime.NumGoroutine")
  | none => false

/-- An element type that may be appended: its size, its zero value. -/
def appK (P : Program) (k : SK) (e : TypeId) (bytes : Nat) : Bool := (match P.info? e with
    | some i => i.bytes == bytes && decide (0 < bytes) && decide (0 < i.size) && (match i.zero with
      | some z => z.cells.size == i.size
      | none => false)
    | none => false) && (match k with
    | .s => false
    | .by_ => true
    | .sl e' => e' == e && (kindE P e).isSome)
def chkO (P : Program) : Op → PO → Bool
  | .move x, .mv y => okOpd P x y
  | .assign x, .mv y => okOpd P x y
  | .pick c a b, .pick c' a' b' => okOpd P c c' && okOpd P a a' && okOpd P b b'
  | .binOp op t x y _, .ar op' k x' y' => op == op' && isArith op && isInt P t k && okOpd P x x' && okOpd P y y'
  | .binOp op _ x y _, .cm op' x' y' => op == op' && isCmp op && okOpd P x x' && okOpd P y y'
  | .binOp op _ x y _, .sh op' _ x' y' => op == op' && (op == .shl || op == .shr) && okOpd P x x' && okOpd P y y'
  | .binOp op _ x y _, .st op' x' y' => op == op' && (op == .add || isCmp op) && okOpd P x x' && okOpd P y y'
  | .binOp op t x y _, .eqb eq x' y' => isEq eq op && isBoolT P t && okOpd P x x' && okOpd P y y'
  | .binOp op t x y _, .eqn eq z => isEq eq op && (elemT? P t).isSome && ((isNilS y && okOpd P x z) || (isNilS x && okOpd P y z))
  | .binOp op t x y _, .eqp eq z => isEq eq op && isPtr P t && ((isNilP y && okOpd P x z) || (isNilP x && okOpd P y z))
  | .binOp op t x y _, .eqs eq ls x' y' => isEq eq op && okOpd P x x' && okOpd P y y' && !(P.stoodInHeld t) && !(P.eqGuardType P.depth t) && (match P.underlying t with
    | some (.struct fs) => eqFieldsOk P 0 fs.toList ls
    | _ => false)
  | .build t parts, .bld zs ps => zeroOk P t zs && (match placesOf P t with
    | some f => partsOk P f parts.toList ps
    | none => false)
  | .unOp .not _ x, .not y => okOpd P x y
  | .unOp .neg _ x, .neg _ y => okOpd P x y
  | .convert s t x, .cv k y => (P.underlying s).isSome && isInt P t k && okOpd P x y
  | .convert s t x, .cvs y => isStr P s && isStr P t && okOpd P x y
  | .convert s t x, .toS y => isBySl P s && isStr P t && okOpd P x y
  | .convert s t x, .toB y => isStr P s && isBySl P t && okOpd P x y
  | .convert s t x, .cvb y => isBySl P s && s == t && okOpd P x y
  | .slice t x lo hi none, .slc k y lo' hi' => skT P t k && okOpd P x y && okOpt P lo lo' && okOpt P hi hi'
  | .call { callee := .builtin .len, args := args, argTypes := ts }, .len str y => (match args.toList, ts.toList with
    | [x], [t] => okOpd P x y && (bif str then isStr P t else (elemT? P t).isSome)
    | _, _ => false)
  | .field t x f, .fld off n y => okOpd P x y && (match fieldOff P t f with
    | some (o, ft) => o == off && okN P ft n
    | none => false)
  | .index t x i, .ixs y j => isStr P t && okOpd P x y && okOpd P i j
  | .alloc t, .al zs => zeroOk P t zs
  | .box _ x, .bx y => okOpd P x y
  | .load t x, .ld n y => okN P t n && okOpd P x y
  | .store t x y, .sto n x' y' => okOpd P x x' && okOpd P y y' && sizeT P t == some n
  | .nilCheck x, .nc y => okOpd P x y
  | .fieldAddr t x f, .fa off y => okOpd P x y && (match fieldOff P t f with
    | some (o, ft) => o == off && (match sizeT P ft with
      | some n => decide (0 < n)
      | none => false)
    | none => false)
  | .indexAddr t x i, .ia k agg ls y j => okOpd P x y && okOpd P i j && skT P t k && (match k with
    | .s => false
    | .by_ => !agg && ls == [.i .u8]
    | .sl e => kindE P e == some (agg, ls) && decide (0 < ls.length))
  | .buildSlice t n parts, .bsl e isBy agg ls xs => elemT? P t == some e && kindE P e == some (agg, ls) && decide (n * ls.length ≤ 16777216) && (match P.info? e with
      | some i => (match i.zero with
        | some z => z.cells.size == i.size
        | none => false)
      | none => false) && (bif isBy then isU8 P e && !agg && ls == [.i .u8] else !(isU8 P e)) && xs.length == n && (match idxParts 0 parts.toList with
      | some l => okOpds P l xs
      | none => false)
  | .extract x j, .ext y k => okOpd P x y && j == k
  | .makeFunc (.func f) first caps, .mkf k ys => f == k && first.isEmpty && okOpds P caps.toList ys
  | .call { callee := .builtin .min, args := xs, .. }, .mn x y => (match xs.toList with
    | [p, q] => okOpd P p x && okOpd P q y
    | _ => false)
  | .call { callee := .builtin .max, args := xs, .. }, .mx x y => (match xs.toList with
    | [p, q] => okOpd P p x && okOpd P q y
    | _ => false)
  | .call { callee := .value f, args := xs, .. }, .call f' ys => okOpd P f f' && okOpds P xs.toList ys
  | .call { callee := .builtin .append, args := xs, argTypes := ts }, .app k e bytes x y => (match xs.toList, ts.toList with
    | [a, b], [t, u] => okOpd P a x && okOpd P b y && elemT? P t == some e && u == t && skT P t k && appK P k e bytes
    | _, _ => false)
  | .index t x i, .ixa n sz len y j => okOpd P x y && okOpd P i j && (match P.underlying t with
    | some (.array l e) => l == len && okN P e n && sizeT P e == some sz
    | _ => false)
  | _, _ => false
end Go.Proofs.Av
end
section
namespace Go.Proofs.Av
open Go.RowKit

def blk : Value → Option Nat
  | .pointer (some a) => some a.block
  | .slice (some a) _ _ => some a.block
  | _ => none

/-- What a call stands in: the world that it began in; the old blocks that may be read; those of the variables that it was handed. -/
structure Ctx where
  P : Program
  nt : Nat
  w0 : World
  St : Nat → Prop
  Pd : Nat → Prop
  g0 : Nat → Value

/-- Blocks of objects. -/
def Mb (l : Obs) (g : Nat → Value) (b : Nat) : Prop := ∃ o x, obAt l o = some x ∧ blk (g o) = some b
def Ctx.Al (C : Ctx) (l : Obs) (g : Nat → Value) (b : Nat) : Prop := (C.St b ∨ C.Pd b ∨ C.w0.heap.size ≤ b) ∧ ¬ Mb l g b

structure Fr (w0 w : World) (Pd : Nat → Prop) : Prop where
  os : w.os = w0.os
  tape : w.tape = w0.tape
  output : w.output = w0.output
  size : w0.heap.size ≤ w.heap.size
  block : ∀ b, b < w0.heap.size → ¬ Pd b → w.heap[b]? = w0.heap[b]?

structure Inv (C : Ctx) (w : World) (g : Nat → Value) (s : S) (a : Act) : Prop where
  env : ∀ t, RV C.P w (C.Al s.obs g) g (get s.env t) (a.eval (.tmp t))
  obs : ∀ o x, obAt s.obs o = some x → RO C.P w (C.Al s.obs g) g o x
  apart : ∀ o o' x x' b, obAt s.obs o = some x → obAt s.obs o' = some x' → o ≠ o' → blk (g o) = some b → blk (g o') ≠ some b
  own : ∀ o x b, obAt s.obs o = some x → blk (g o) = some b → C.Pd b ∨ C.w0.heap.size ≤ b
  frame : Fr C.w0 w C.Pd
  low : ∀ o, o < 1000 → g o = C.g0 o
  size : a.tmps.size = C.nt
  defers : a.defers = []
def InvE (C : Ctx) (w : World) (s : S) (a : Act) : Prop := ∃ g, Inv C w g s a

theorem get_put (e : Env) (d t : Nat) (v : V) : get ((d, v) :: e) t = if d = t then v else get e t := by
  simp only [get]
  by_cases h : d = t
  · simp [h]
  · rw [if_neg h, beq_false_of_ne h]
    rfl
theorem eval_put (a : Act) (d t : Nat) (u : Value) (h : d < a.tmps.size) : (a.put (some d) u).eval (.tmp t) = if d = t then u else a.eval (.tmp t) := by
  simp only [Act.put, Act.eval]
  by_cases hd : d = t
  · subst hd
    simp [Array.getD_eq_getD_getElem?, h]
  · simp [Array.getD_eq_getD_getElem?, hd, Array.getElem?_setIfInBounds_ne]
theorem Inv.put {C : Ctx} {w : World} {g : Nat → Value} {s : S} {a : Act} (h : Inv C w g s a) {d : Option Nat} (hd : ∀ t, d = some t → t < C.nt) {v : V} {u : Value}
    (hv : RV C.P w (C.Al s.obs g) g v u) : Inv C w g (s.put d v) (a.put d u) := by
  cases d with
  | none => exact ⟨h.env, h.obs, h.apart, h.own, h.frame, h.low, h.size, h.defers⟩
  | some d =>
    refine ⟨fun t => ?_, h.obs, h.apart, h.own, h.frame, h.low, by simpa [Act.put] using h.size, h.defers⟩
    simp only [S.put]
    rw [get_put, eval_put a d t u (by rw [h.size]; exact hd d rfl)]
    split
    · exact hv
    · exact h.env t

/-! ### Operands -/
theorem lit_R {P : Program} {w : World} {A : Nat → Prop} {t : T} {v : Value} (h : litOk t v = true) : R P w A t [v] := by
  unfold litOk at h
  split at h
  · simp only [Bool.and_eq_true, beq_iff_eq, decide_eq_true_eq] at h
    obtain ⟨⟨⟨rfl, rfl⟩, h1⟩, h2⟩ := h
    exact ⟨rfl, h1, h2⟩
  · simp only [beq_iff_eq] at h
    subst h
    rfl
  · rename_i l s
    simp only [Bool.and_eq_true, beq_iff_eq, decide_eq_true_eq] at h
    obtain ⟨rfl, h1⟩ := h
    exact ⟨by simp, by unfold maxLen; omega⟩
  · simp only [Bool.and_eq_true, List.isEmpty_iff] at h
    obtain ⟨rfl, rfl⟩ := h
    exact ⟨none, 0, rfl, by simp, by simp, by simp, .inl rfl⟩
  · exact ⟨rfl, rfl⟩
  · exact ⟨rfl, rfl⟩
  · exact ⟨rfl, rfl⟩
  · exact ⟨rfl, rfl⟩
  · cases h
theorem nil_R {P : Program} {w : World} {A : Nat → Prop} {e : TypeId} (h : (kindE P e).isSome = true) (z : Bool) : R P w A (.sl z e []) [.slice none 0 0] := by
  obtain ⟨q, hq⟩ := Option.isSome_iff_exists.1 h
  simp only [R]
  exact ⟨none, 0, [], rfl, by simp, by simp, by simp, .inl rfl, rfl, q.1, q.2, hq, by simp⟩
section
variable {C : Ctx} {w : World} {g : Nat → Value} {s : S} {a : Act}
theorem ev_ok (h : Inv C w g s a) {x : Operand} {y : Opd} (ho : okOpd C.P x y = true) : RV C.P w (C.Al s.obs g) g (ev s.env y) (a.eval x) := by
  unfold okOpd at ho
  split at ho
  · simp only [beq_iff_eq] at ho
    subst ho
    exact h.env _
  · simp only [Bool.and_eq_true, List.isEmpty_iff] at ho
    obtain ⟨⟨rfl, rfl⟩, hk⟩ := ho
    exact nil_R hk true
  · exact lit_R ho
  · simp only [beq_iff_eq] at ho
    subst ho
    exact ⟨#[], rfl, rfl⟩
  · cases ho
theorem evs_ok (h : Inv C w g s a) : ∀ {xs : List Operand} {ys : List Opd}, okOpds C.P xs ys = true → RVs C.P w (C.Al s.obs g) g (evs s.env ys) (xs.map a.eval)
  | [], [], _ => rfl
  | x :: xs, y :: ys, ho => by
    simp only [okOpds, Bool.and_eq_true] at ho
    exact ⟨_, _, rfl, ev_ok h ho.1, evs_ok h ho.2⟩
  | [], _ :: _, ho => by simp [okOpds] at ho
  | _ :: _, [], ho => by simp [okOpds] at ho
end

/-! ### Values of known forms -/
section
variable {P : Program} {w : World} {A : Nat → Prop} {g : Nat → Value} {u : Value}
theorem RV_i {k : IntKind} {n : Int} (h : RV P w A g (.im (.i k n)) u) : u = .int k n ∧ k.min ≤ n ∧ n ≤ k.max := by
  simp only [RV, R] at h
  exact ⟨by simpa using h.1, h.2⟩
theorem RV_b {x : Bool} (h : RV P w A g (.im (.b x)) u) : u = .bool x := by simpa [RV, R] using h
theorem RV_s {l : List UInt8} (h : RV P w A g (.im (.s l)) u) : u = .string ⟨l.toArray⟩ ∧ l.length ≤ maxLen := by simpa [RV, R] using h
theorem RV_by {z : Bool} {l : List UInt8} (h : RV P w A g (.im (.by_ z l)) u) : ∃ a c, u = .slice a l.length c ∧ l.length ≤ c ∧ c ≤ maxLen ∧ (z = true → a = none ∧ c = 0) ∧ Cells w A a (l.map byteV) := by
  simp only [RV, R, List.cons.injEq, and_true] at h
  obtain ⟨a, c, h1, h2, h3, h4, h5⟩ := h
  exact ⟨a, c, h1, h2, h3, h4.1, h5⟩
/-- .. a nil slice has no room. -/
theorem RV_by' {z : Bool} {l : List UInt8} (h : RV P w A g (.im (.by_ z l)) u) : ∃ a c, u = .slice a l.length c ∧ l.length ≤ c ∧ c ≤ maxLen ∧ ((z = true → a = none ∧ c = 0) ∧ (a = none → c = 0)) ∧ Cells w A a (l.map byteV) := by
  simp only [RV, R, List.cons.injEq, and_true] at h
  exact h
theorem RV_sl {z : Bool} {e : TypeId} {xs : List T} (h : RV P w A g (.im (.sl z e xs)) u) : ∃ a c cs, u = .slice a xs.length c ∧ xs.length ≤ c ∧ c ≤ maxLen ∧ (z = true → a = none ∧ c = 0) ∧ Cells w A a cs ∧ Rs P w A xs cs ∧
      ∃ agg ls, kindE P e = some (agg, ls) ∧ ∀ x ∈ xs, okElem agg ls x = true := by
  simp only [RV, R, List.cons.injEq, and_true] at h
  exact h
theorem mk_i {k : IntKind} {n : Int} (h1 : k.min ≤ n) (h2 : n ≤ k.max) : RV P w A g (.im (.i k n)) (.int k n) := ⟨rfl, h1, h2⟩
theorem mk_b (x : Bool) : RV P w A g (.im (.b x)) (.bool x) := rfl
theorem mk_s {l : List UInt8} (h : l.length ≤ maxLen) : RV P w A g (.im (.s l)) (.string ⟨l.toArray⟩) := ⟨rfl, h⟩
theorem wrap_in (k : IntKind) (n : Int) : k.min ≤ k.wrap n ∧ k.wrap n ≤ k.max := by
  cases k <;> simp [IntKind.wrap, IntKind.min, IntKind.max, IntKind.bits, IntKind.signed] <;> (try split) <;> omega
end
end Go.Proofs.Av
end
