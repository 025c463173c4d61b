/- SOME FUEL: the evaluator as equations. -/
import Derived.Test.YtcfjcoglhimdeaaDoorAvFin
set_option linter.unusedSimpArgs false
set_option linter.unusedVariables false
namespace Go.Proofs.Av
abbrev CallF := FuncId → List V → Obs → Option Res
abbrev LoopF := PC → S → Option (Out × S)
def LeC (f g : CallF) : Prop := ∀ k a o r, f k a o = some r → g k a o = some r
def LeL (f g : LoopF) : Prop := ∀ c s r, f c s = some r → g c s = some r
section
variable {call call' : CallF} {loop loop' : LoopF}
theorem doCall_ex (s : S) (d : Option Nat) (f : FuncId) (args : List V) : ∃ (c : Bool) (A : List V) (O : Obs) (K : Res → Option (Out × S)), ∀ call : CallF, doCall call s d f args = bif c then none else (call f A O).bind K :=
  ⟨_, _, _, _, fun _ => rfl⟩
theorem stepO_mono (h : LeC call call') {s : S} {d : Option Nat} {op : PO} {p : Out × S} (e : stepO call s d op = some p) : stepO call' s d op = some p := by
  cases op with
  | call f args =>
    simp only [stepO] at e ⊢
    generalize ev s.env f = v at e ⊢
    cases v with
    | fn k caps =>
      simp only at e ⊢
      obtain ⟨c, A, O, K, hK⟩ := doCall_ex s d k (evs s.env args ++ caps)
      rw [hK] at e ⊢
      cases c with
      | true => cases e
      | false =>
        simp only [cond_false] at e ⊢
        obtain ⟨r, h1, h2⟩ := Option.bind_eq_some_iff.1 e
        rw [h _ _ _ _ h1]
        exact h2
    | _ => cases e
  | _ => exact e
theorem bind_mono {α β : Type} {x x' : Option α} {f f' : α → Option β} {p : β} (hx : ∀ a, x = some a → x' = some a) (hf : ∀ a p, f a = some p → f' a = some p) (e : x.bind f = some p) : x'.bind f' = some p := by
  obtain ⟨a, h1, h2⟩ := Option.bind_eq_some_iff.1 e
  rw [hx a h1]
  exact hf a p h2
theorem andThen_mono {x x' : Option (Out × S)} {f f' : S → Option (Out × S)} {p : Out × S} (hx : ∀ a, x = some a → x' = some a) (hf : ∀ a p, f a = some p → f' a = some p) (e : andThen x f = some p) : andThen x' f' = some p := by
  unfold andThen at e ⊢
  refine bind_mono hx (fun a p h => ?_) e
  obtain ⟨o, s⟩ := a
  cases o <;> first | exact hf _ _ h | exact h
theorem runOps_mono (h : LeC call call') : ∀ (l : List POp) (s : S) (p : Out × S), runOps call l s = some p → runOps call' l s = some p
  | [], _, _, e => e
  | o :: r, s, p, e => by
    rw [runOps] at e ⊢
    split at e
    · exact andThen_mono (fun a => stepO_mono h) (fun a p => runOps_mono h r a p) e
    · split at e
      · rename_i jj want hg v x hx
        cases hb : x == want with
        | true =>
          rw [hb] at e
          exact andThen_mono (fun a => stepO_mono h) (fun a p => runOps_mono h r a p) e
        | false =>
          rw [hb] at e
          exact runOps_mono h r _ p e
      · exact runOps_mono h r _ p e
      · cases e
theorem behind_mono {x x' : Option (Out × S)} {f f' : S → Option (Out × S)} {p : Out × S} (hx : ∀ a, x = some a → x' = some a) (hf : ∀ a p, f a = some p → f' a = some p) (e : behind x f = some p) : behind x' f' = some p := by
  unfold behind at e ⊢
  refine bind_mono hx (fun a p h => ?_) e
  obtain ⟨o, s⟩ := a
  cases o <;> first | exact hf _ _ h | exact h
theorem stepT_mono (h : LeC call call') {ops : List POp} {i : Nat} {s : S} {f f' : S → Option (Out × S)} {p : Out × S} (hf : ∀ a p, f a = some p → f' a = some p) (e : stepT call ops i s f = some p) : stepT call' ops i s f' = some p := by
  unfold stepT at e ⊢
  cases ho : ops[i]? with
  | none => rw [ho] at e; cases e
  | some o =>
    rw [ho] at e
    exact behind_mono (fun a => runOps_mono h [o] s a) hf e
theorem both_some {x y : Option (Out × S)} {p : Out × S} (hx : x = some p) (hy : y = some p) : both x y = some p := by
  subst hx hy
  exact both_self _
theorem runT_mono (h : LeC call call') {ops : List POp} {keep : List Nat} : ∀ (t : OT) (s : S) (p : Out × S), runT call ops keep t s = some p → runT call' ops keep t s = some p
  | .done, _, _, e => e
  | .stop, _, _, e => e
  | .one i t, s, p, e => stepT_mono h (fun s p => runT_mono h t s p) e
  | .br t, s, p, e => runT_mono h t s p e
  | .alt i t .stop, s, p, e => stepT_mono h (fun s p => runT_mono h t s p) e
  | .alt i t .done, s, p, e => both_some (stepT_mono h (fun s p => runT_mono h t s p) (both_eq e).1) (runT_mono h .done s p (both_eq e).2)
  | .alt i t (.one j u), s, p, e => both_some (stepT_mono h (fun s p => runT_mono h t s p) (both_eq e).1) (runT_mono h (.one j u) s p (both_eq e).2)
  | .alt i t (.br u), s, p, e => both_some (stepT_mono h (fun s p => runT_mono h t s p) (both_eq e).1) (runT_mono h (.br u) s p (both_eq e).2)
  | .alt i t (.alt j u r), s, p, e => both_some (stepT_mono h (fun s p => runT_mono h t s p) (both_eq e).1) (runT_mono h (.alt j u r) s p (both_eq e).2)
theorem leave_mono {id : Nat} {x x' : Option (Out × S)} {p : Out × S} (hx : ∀ a, x = some a → x' = some a) (e : leave id x = some p) : leave id x' = some p := bind_mono hx (fun _ _ h => h) e
theorem run_mono (h : LeC call call') (hl : LeL loop loop') : ∀ (c : PC) (s : S) (p : Out × S), run call loop c s = some p → run call' loop' c s = some p
  | .sk, _, _, e => e
  | .rg ops keep, s, p, e => by
    simp only [run] at e ⊢
    exact andThen_mono (fun a => runOps_mono h ops s a) (fun _ _ h => h) e
  | .rd ops t keep, s, p, e => runT_mono h t s p e
  | .sq a b, s, p, e => by
    simp only [run] at e ⊢
    exact andThen_mono (fun q => run_mono h hl a s q) (fun s p => run_mono h hl b s p) e
  | .cd c a b, s, p, e => by
    simp only [run] at e ⊢
    split at e
    · rename_i x hx
      cases x with
      | true => exact run_mono h hl a s p e
      | false => exact run_mono h hl b s p e
    · cases e
  | .bk id a, s, p, e => by
    simp only [run] at e ⊢
    exact leave_mono (fun q => run_mono h hl a s q) e
  | .lp keep own a, s, p, e => hl _ _ _ e
  | .ex _, _, _, e => e
  | .rt, _, _, e => e
theorem enter_mono (h : LeC call call') (hl : LeL loop loop') {pf : PF} {args : List V} {obs : Obs} {r : Res} (e : enter call loop pf args obs = some r) : enter call' loop' pf args obs = some r := by
  unfold enter at e ⊢
  obtain ⟨hc, e⟩ := bif_some e
  rw [hc, cond_true]
  exact bind_mono (fun a => run_mono h hl _ _ a) (fun _ _ h => h) e
theorem round_mono (h : LeC call call') (hl : LeL loop loop') {c : PC} {s : S} {p : Out × S} (e : round call loop c s = some p) : round call' loop' c s = some p := by
  cases c with
  | lp keep own a =>
    simp only [round] at e ⊢
    refine bind_mono (fun _ h => h) (fun s0 p e => ?_) e
    unfold again at e ⊢
    refine bind_mono (fun q => run_mono h hl a s0 q) (fun q p e => ?_) e
    obtain ⟨o, s1⟩ := q
    cases o <;> first | exact hl _ _ _ e | exact e
  | _ => cases e
end
section
variable (tab : FuncId → Option PF) (lib : CallF)
theorem both_mono : ∀ n m, n ≤ m → LeC (callN tab lib n) (callN tab lib m) ∧ LeL (loopN tab lib n) (loopN tab lib m)
  | 0, _, _ => ⟨fun _ _ _ _ e => by simp [callN] at e, fun _ _ _ e => by simp [loopN] at e⟩
  | n + 1, 0, h => absurd h (by omega)
  | n + 1, m + 1, h => by
    obtain ⟨h1, h2⟩ := both_mono n m (by omega)
    refine ⟨fun k a o r e => ?_, fun c s p e => ?_⟩
    · rw [callN] at e ⊢
      cases hr : lib k a o with
      | some r' => rw [hr] at e; exact e
      | none =>
        rw [hr] at e
        simp only at e ⊢
        cases hp : tab k with
        | some pf => rw [hp] at e; exact enter_mono h1 h2 e
        | none => rw [hp] at e; cases e
    · rw [loopN] at e ⊢
      exact round_mono h1 h2 e
open Classical in
noncomputable def evL : CallF := fun k a o => if h : ∃ n, ∃ r, callN tab lib n k a o = some r then some (Classical.choose (Classical.choose_spec h)) else none
open Classical in
noncomputable def lpL : LoopF := fun c s => if h : ∃ n, ∃ r, loopN tab lib n c s = some r then some (Classical.choose (Classical.choose_spec h)) else none
theorem evL_iff {k : FuncId} {a : List V} {o : Obs} {r : Res} : evL tab lib k a o = some r ↔ ∃ n, callN tab lib n k a o = some r := by
  unfold evL
  constructor
  · intro e
    split at e
    · rename_i h
      have := Classical.choose_spec (Classical.choose_spec h)
      simp only [Option.some.injEq] at e
      exact ⟨_, e ▸ this⟩
    · cases e
  · rintro ⟨n, hn⟩
    have h : ∃ n, ∃ r, callN tab lib n k a o = some r := ⟨n, r, hn⟩
    rw [dif_pos h]
    have h2 := Classical.choose_spec (Classical.choose_spec h)
    have a1 := (both_mono tab lib _ _ (Nat.le_max_left n (Classical.choose h))).1 _ _ _ _ hn
    have a2 := (both_mono tab lib _ _ (Nat.le_max_right n (Classical.choose h))).1 _ _ _ _ h2
    rw [a1] at a2
    exact a2.symm
theorem lpL_iff {c : PC} {s : S} {r : Out × S} : lpL tab lib c s = some r ↔ ∃ n, loopN tab lib n c s = some r := by
  unfold lpL
  constructor
  · intro e
    split at e
    · rename_i h
      have := Classical.choose_spec (Classical.choose_spec h)
      simp only [Option.some.injEq] at e
      exact ⟨_, e ▸ this⟩
    · cases e
  · rintro ⟨n, hn⟩
    have h : ∃ n, ∃ r, loopN tab lib n c s = some r := ⟨n, r, hn⟩
    rw [dif_pos h]
    have h2 := Classical.choose_spec (Classical.choose_spec h)
    have a1 := (both_mono tab lib _ _ (Nat.le_max_left n (Classical.choose h))).2 _ _ _ hn
    have a2 := (both_mono tab lib _ _ (Nat.le_max_right n (Classical.choose h))).2 _ _ _ h2
    rw [a1] at a2
    exact a2.symm
theorem le_evL (n : Nat) : LeC (callN tab lib n) (evL tab lib) := fun _ _ _ _ e => (evL_iff tab lib).2 ⟨n, e⟩
theorem le_lpL (n : Nat) : LeL (loopN tab lib n) (lpL tab lib) := fun _ _ _ e => (lpL_iff tab lib).2 ⟨n, e⟩
theorem stepO_cont {s : S} {d : Option Nat} {op : PO} {p : Out × S} (e : stepO (evL tab lib) s d op = some p) : ∃ n, stepO (callN tab lib n) s d op = some p := by
  cases op with
  | call f args =>
    simp only [stepO] at e ⊢
    generalize ev s.env f = v at e ⊢
    cases v with
    | fn k caps =>
      simp only at e ⊢
      obtain ⟨c, A, O, K, hK⟩ := doCall_ex s d k (evs s.env args ++ caps)
      rw [hK] at e
      cases c with
      | true => cases e
      | false =>
        simp only [cond_false] at e
        obtain ⟨r, h1, h2⟩ := Option.bind_eq_some_iff.1 e
        obtain ⟨n, hn⟩ := (evL_iff tab lib).1 h1
        refine ⟨n, ?_⟩
        rw [hK, cond_false, hn]
        exact h2
    | _ => cases e
  | _ => exact ⟨0, e⟩
theorem andThen_cont {f : Nat → Option (Out × S)} {x : Option (Out × S)} {k : S → Option (Out × S)} {kn : Nat → S → Option (Out × S)} {p : Out × S}
    (hx : ∀ a, x = some a → ∃ n, f n = some a) (hk : ∀ s p, k s = some p → ∃ n, kn n s = some p)
    (mx : ∀ n m a, n ≤ m → f n = some a → f m = some a) (mk : ∀ n m s p, n ≤ m → kn n s = some p → kn m s = some p) (e : andThen x k = some p) : ∃ n, andThen (f n) (kn n) = some p := by
  unfold andThen at e ⊢
  obtain ⟨⟨o, s⟩, h1, h2⟩ := Option.bind_eq_some_iff.1 e
  obtain ⟨n, hn⟩ := hx _ h1
  cases o with
  | nx =>
    obtain ⟨m, hm⟩ := hk _ _ h2
    refine ⟨max n m, ?_⟩
    rw [mx n _ _ (Nat.le_max_left n m) hn]
    exact mk m _ _ _ (Nat.le_max_right n m) hm
  | ex i => exact ⟨n, by rw [hn]; exact h2⟩
  | rt => exact ⟨n, by rw [hn]; exact h2⟩
  | pn v => exact ⟨n, by rw [hn]; exact h2⟩
theorem runOps_cont : ∀ (l : List POp) (s : S) (p : Out × S), runOps (evL tab lib) l s = some p → ∃ n, runOps (callN tab lib n) l s = some p
  | [], _, _, e => ⟨0, e⟩
  | o :: r, s, p, e => by
    have key : ∀ p, andThen (stepO (evL tab lib) s o.d o.op) (runOps (evL tab lib) r) = some p → ∃ n, andThen (stepO (callN tab lib n) s o.d o.op) (runOps (callN tab lib n) r) = some p := fun p e =>
      andThen_cont (f := fun n => stepO (callN tab lib n) s o.d o.op) (kn := fun n => runOps (callN tab lib n) r)
        (fun a => stepO_cont tab lib) (fun s p => runOps_cont r s p) (fun n m a h => stepO_mono (both_mono tab lib n m h).1) (fun n m s p h => runOps_mono (both_mono tab lib n m h).1 r s p) e
    rw [runOps] at e
    split at e
    · rename_i hg
      obtain ⟨n, hn⟩ := key p e
      exact ⟨n, by rw [runOps, hg]; exact hn⟩
    · rename_i j want hg
      split at e
      · rename_i x hx
        cases hb : x == want with
        | true =>
          rw [hb] at e
          obtain ⟨n, hn⟩ := key p e
          exact ⟨n, by rw [runOps, hg]; simp only [hx, hb]; exact hn⟩
        | false =>
          rw [hb] at e
          obtain ⟨n, hn⟩ := runOps_cont r _ p e
          exact ⟨n, by rw [runOps, hg]; simp only [hx, hb]; exact hn⟩
      · rename_i hx
        obtain ⟨n, hn⟩ := runOps_cont r _ p e
        exact ⟨n, by rw [runOps, hg]; simp only [hx]; exact hn⟩
      · cases e
theorem stepT_cont {ops : List POp} {i : Nat} {s : S} {f : S → Option (Out × S)} {fn : Nat → S → Option (Out × S)} {p : Out × S} (hk : ∀ s p, f s = some p → ∃ n, fn n s = some p)
    (mk : ∀ n m s p, n ≤ m → fn n s = some p → fn m s = some p) (e : stepT (evL tab lib) ops i s f = some p) : ∃ n, stepT (callN tab lib n) ops i s (fn n) = some p := by
  unfold stepT at e ⊢
  cases ho : ops[i]? with
  | none => rw [ho] at e; cases e
  | some o =>
    rw [ho] at e
    simp only at e ⊢
    rcases behind_some e with ⟨s1, h1, h2⟩ | ⟨q, s1, h1, h2, h3⟩
    · obtain ⟨n, hn⟩ := runOps_cont tab lib _ _ _ h1
      obtain ⟨m, hm⟩ := hk _ _ h2
      refine ⟨max n m, ?_⟩
      rw [runOps_mono (both_mono tab lib n _ (Nat.le_max_left n m)).1 _ _ _ hn]
      exact mk m _ _ _ (Nat.le_max_right n m) hm
    · obtain ⟨n, hn⟩ := runOps_cont tab lib _ _ _ h1
      refine ⟨n, ?_⟩
      rw [hn]
      subst h3
      cases q <;> first | exact absurd rfl h2 | rfl
theorem runT_cont {ops : List POp} {keep : List Nat} : ∀ (t : OT) (s : S) (p : Out × S), runT (evL tab lib) ops keep t s = some p → ∃ n, runT (callN tab lib n) ops keep t s = some p
  | .done, _, _, e => ⟨0, e⟩
  | .stop, _, _, e => by cases e
  | .br t, s, p, e => runT_cont t s p e
  | .one i t, s, p, e => stepT_cont tab lib (f := runT (evL tab lib) ops keep t) (fn := fun n => runT (callN tab lib n) ops keep t) (fun s p => runT_cont t s p) (fun n m s p h => runT_mono (both_mono tab lib n m h).1 t s p) e
  | .alt i t r, s, p, e => by
    have h1 : ∀ q, stepT (evL tab lib) ops i s (runT (evL tab lib) ops keep t) = some q → ∃ n, stepT (callN tab lib n) ops i s (runT (callN tab lib n) ops keep t) = some q := fun q e =>
      stepT_cont tab lib (f := runT (evL tab lib) ops keep t) (fn := fun n => runT (callN tab lib n) ops keep t) (fun s p => runT_cont t s p) (fun n m s p h => runT_mono (both_mono tab lib n m h).1 t s p) e
    have h2 : ∀ n m q, n ≤ m → stepT (callN tab lib n) ops i s (runT (callN tab lib n) ops keep t) = some q → stepT (callN tab lib m) ops i s (runT (callN tab lib m) ops keep t) = some q := fun n m q h e =>
      stepT_mono (both_mono tab lib n m h).1 (fun s p => runT_mono (both_mono tab lib n m h).1 t s p) e
    have two : (∃ n, runT (callN tab lib n) ops keep r s = some p) → stepT (evL tab lib) ops i s (runT (evL tab lib) ops keep t) = some p → r ≠ .stop → ∃ n, runT (callN tab lib n) ops keep (.alt i t r) s = some p := by
      rintro ⟨m, hm⟩ e hr
      obtain ⟨n, hn⟩ := h1 p e
      refine ⟨max n m, ?_⟩
      have a1 := h2 n _ p (Nat.le_max_left n m) hn
      have a2 := runT_mono (both_mono tab lib m _ (Nat.le_max_right n m)).1 r s p hm
      cases r with
      | stop => exact absurd rfl hr
      | _ => exact both_some a1 a2
    cases r with
    | stop => exact h1 p e
    | done => exact two (runT_cont .done s p (both_eq e).2) (both_eq e).1 (by simp)
    | one j u => exact two (runT_cont (.one j u) s p (both_eq e).2) (both_eq e).1 (by simp)
    | br u => exact two (runT_cont (.br u) s p (both_eq e).2) (both_eq e).1 (by simp)
    | alt j u r => exact two (runT_cont (.alt j u r) s p (both_eq e).2) (both_eq e).1 (by simp)
theorem run_cont : ∀ (c : PC) (s : S) (p : Out × S), run (evL tab lib) (lpL tab lib) c s = some p → ∃ n, run (callN tab lib n) (loopN tab lib n) c s = some p
  | .sk, _, _, e => ⟨0, e⟩
  | .rg ops keep, s, p, e => by
    simp only [run] at e ⊢
    exact andThen_cont (f := fun n => runOps (callN tab lib n) ops s) (kn := fun _ s1 => go (prune keep s1)) (fun a => runOps_cont tab lib ops s a) (fun s p h => ⟨0, h⟩)
      (fun n m a h => runOps_mono (both_mono tab lib n m h).1 ops s a) (fun _ _ _ _ _ h => h) e
  | .rd ops t keep, s, p, e => runT_cont tab lib t s p e
  | .sq a b, s, p, e => by
    simp only [run] at e ⊢
    exact andThen_cont (f := fun n => run (callN tab lib n) (loopN tab lib n) a s) (kn := fun n => run (callN tab lib n) (loopN tab lib n) b) (fun q => run_cont a s q) (fun s p => run_cont b s p)
      (fun n m q h => run_mono (both_mono tab lib n m h).1 (both_mono tab lib n m h).2 a s q) (fun n m s p h => run_mono (both_mono tab lib n m h).1 (both_mono tab lib n m h).2 b s p) e
  | .cd c a b, s, p, e => by
    simp only [run] at e ⊢
    split at e
    · rename_i x hx
      cases x with
      | true => obtain ⟨n, hn⟩ := run_cont a s p e; exact ⟨n, hn⟩
      | false => obtain ⟨n, hn⟩ := run_cont b s p e; exact ⟨n, hn⟩
    · cases e
  | .bk id a, s, p, e => by
    simp only [run] at e ⊢
    unfold leave at e ⊢
    obtain ⟨q, h1, h2⟩ := Option.bind_eq_some_iff.1 e
    obtain ⟨n, hn⟩ := run_cont a s q h1
    exact ⟨n, by rw [hn]; exact h2⟩
  | .lp keep own a, s, p, e => (lpL_iff tab lib).1 e
  | .ex _, _, _, e => ⟨0, e⟩
  | .rt, _, _, e => ⟨0, e⟩
/-- The evaluator's equation. -/
theorem evL_eq (k : FuncId) (args : List V) (obs : Obs) : evL tab lib k args obs = match lib k args obs with
    | some r => some r
    | none => match tab k with
      | some pf => enter (evL tab lib) (lpL tab lib) pf args obs
      | none => none := by
  apply Option.ext
  intro r
  rw [evL_iff]
  constructor
  · rintro ⟨n, hn⟩
    cases n with
    | zero => simp [callN] at hn
    | succ n =>
      rw [callN] at hn
      cases hr : lib k args obs with
      | some r' => rw [hr] at hn; exact hn
      | none =>
        rw [hr] at hn
        simp only at hn ⊢
        cases hp : tab k with
        | some pf => rw [hp] at hn; exact enter_mono (le_evL tab lib n) (le_lpL tab lib n) hn
        | none => rw [hp] at hn; cases hn
  · intro e
    cases h : lib k args obs with
    | some r' =>
      rw [h] at e
      exact ⟨1, by rw [callN, h]; exact e⟩
    | none =>
      rw [h] at e
      simp only at e
      cases hp : tab k with
      | none => rw [hp] at e; cases e
      | some pf =>
        rw [hp] at e
        simp only at e
        unfold enter at e
        obtain ⟨hc, e⟩ := bif_some e
        obtain ⟨q, h1, h2⟩ := Option.bind_eq_some_iff.1 (show (run (evL tab lib) (lpL tab lib) pf.code ⟨zipEnv 0 args, obs⟩).bind _ = some r from e)
        obtain ⟨n, hn⟩ := run_cont tab lib _ _ _ h1
        refine ⟨n + 1, ?_⟩
        rw [callN, h]
        simp only
        rw [hp]
        simp only
        unfold enter
        rw [hc, cond_true]
        unfold fend
        rw [hn]
        exact h2
theorem lpL_eq (c : PC) (s : S) : lpL tab lib c s = round (evL tab lib) (lpL tab lib) c s := by
  apply Option.ext
  intro r
  rw [lpL_iff]
  constructor
  · rintro ⟨n, hn⟩
    cases n with
    | zero => simp [loopN] at hn
    | succ n =>
      rw [loopN] at hn
      exact round_mono (le_evL tab lib n) (le_lpL tab lib n) hn
  · intro e
    cases c with
    | lp keep own a =>
      simp only [round] at e
      obtain ⟨s0, h0, e⟩ := Option.bind_eq_some_iff.1 e
      unfold again at e
      obtain ⟨⟨o, s1⟩, h1, h2⟩ := Option.bind_eq_some_iff.1 e
      obtain ⟨n, hn⟩ := run_cont tab lib _ _ _ h1
      cases o with
      | nx =>
        obtain ⟨m, hm⟩ := (lpL_iff tab lib).1 h2
        refine ⟨max n m + 1, ?_⟩
        have b1 := both_mono tab lib n (max n m) (Nat.le_max_left n m)
        have b2 := both_mono tab lib m (max n m) (Nat.le_max_right n m)
        rw [loopN]
        simp only [round, h0, Option.bind_some]
        unfold again
        rw [run_mono b1.1 b1.2 a s0 _ hn]
        exact b2.2 _ _ _ hm
      | _ =>
        refine ⟨n + 1, ?_⟩
        rw [loopN]
        simp only [round, h0, Option.bind_some]
        unfold again
        rw [hn]
        exact h2
    | _ => cases e
theorem evL_ok {P : Program} {GI : World → Prop} (hT : TabOk P tab) (hlib : SoundT P GI lib) : SoundT P GI (evL tab lib) := fun k args l r e => by
  obtain ⟨n, hn⟩ := (evL_iff tab lib).1 e
  exact (all_ok hT hlib n).1 k args l r hn
end
end Go.Proofs.Av
