/- STUCK EVALUATION: the evaluator with its continuation as a list; a test that is open stops it. -/
import Derived.Test.YtcfjcoglhimdeaaDoorAvLim
set_option linter.unusedSimpArgs false
set_option linter.unusedVariables false
namespace Go.Proofs.Av
/-- A step that is told, not reckoned again. -/
theorem nr {α : Type} {a b : α} (h : a = b) : a = b := h
inductive Kf where
  | sq (b : PC)
  | bk (id : Nat)
  | ag (c : PC)
section
variable {α : Type} (call : CallF) (loop : LoopF)
noncomputable def unw : List Kf → Out × S → Option (Out × S)
  | [], p => some p
  | .sq b :: k, p => (match p.1 with
    | .nx => run call loop b p.2
    | q => some (q, p.2)).bind (unw k)
  | .bk id :: k, p => (match p.1 with
    | .ex j => bif j == id then go p.2 else some (.ex j, p.2)
    | q => some (q, p.2)).bind (unw k)
  | .ag c :: k, p => (match p.1 with
    | .nx => loop c p.2
    | q => some (q, p.2)).bind (unw k)
noncomputable def retK (o : Out) (s : S) (k : List Kf) (κ : Out × S → Option α) : Option α := (unw call loop k (o, s)).bind κ
noncomputable def lpK (r : Option (Out × S)) (k : List Kf) (κ : Out × S → Option α) : Option α := r.bind fun p => retK call loop p.1 p.2 k κ
noncomputable def runK (c : PC) (s : S) (k : List Kf) (κ : Out × S → Option α) : Option α := lpK call loop (run call loop c s) k κ
noncomputable def thK (r : Option (Out × S)) (l : List POp) (keep : List Nat) (k : List Kf) (κ : Out × S → Option α) : Option α := lpK call loop (andThen (andThen r (runOps call l)) fun s1 => go (prune keep s1)) k κ
noncomputable def opsK (l : List POp) (keep : List Nat) (s : S) (k : List Kf) (κ : Out × S → Option α) : Option α := thK call loop (some (.nx, s)) l keep k κ
noncomputable def gdK (v : V) (w : Bool) (d : Option Nat) (op : PO) (l : List POp) (keep : List Nat) (s : S) (k : List Kf) (κ : Out × S → Option α) : Option α :=
  lpK call loop (andThen (guarded v w (andThen (stepO call s d op) (runOps call l)) (runOps call l (s.put d (.tp [])))) fun s1 => go (prune keep s1)) k κ
noncomputable def brK (v : V) (a b : PC) (s : S) (k : List Kf) (κ : Out × S → Option α) : Option α := lpK call loop (branch v (run call loop a s) (run call loop b s)) k κ
variable {call loop} {κ : Out × S → Option α} {k : List Kf} {s : S}
theorem retK_nil (o : Out) : retK call loop o s [] κ = κ (o, s) := nr rfl
theorem lpK_some (o : Out) : lpK call loop (some (o, s)) k κ = retK call loop o s k κ := nr rfl
theorem retK_sq (b : PC) : retK call loop .nx s (.sq b :: k) κ = runK call loop b s k κ := by
  unfold retK runK lpK
  rw [unw]
  simp only [Option.bind_assoc]
  rfl
theorem retK_sq_ex (i : Nat) (b : PC) : retK call loop (.ex i) s (.sq b :: k) κ = retK call loop (.ex i) s k κ := nr rfl
theorem retK_sq_rt (b : PC) : retK call loop .rt s (.sq b :: k) κ = retK call loop .rt s k κ := nr rfl
theorem retK_sq_pn (v : V) (b : PC) : retK call loop (.pn v) s (.sq b :: k) κ = retK call loop (.pn v) s k κ := nr rfl
theorem retK_bk (id : Nat) : retK call loop .nx s (.bk id :: k) κ = retK call loop .nx s k κ := nr rfl
theorem retK_bk_ex (i id : Nat) : retK call loop (.ex i) s (.bk id :: k) κ = bif i == id then retK call loop .nx s k κ else retK call loop (.ex i) s k κ := by
  unfold retK
  rw [unw]
  simp only
  cases i == id <;> rfl
theorem retK_bk_rt (id : Nat) : retK call loop .rt s (.bk id :: k) κ = retK call loop .rt s k κ := nr rfl
theorem retK_bk_pn (v : V) (id : Nat) : retK call loop (.pn v) s (.bk id :: k) κ = retK call loop (.pn v) s k κ := nr rfl
theorem retK_ag (c : PC) : retK call loop .nx s (.ag c :: k) κ = lpK call loop (loop c s) k κ := by
  unfold retK lpK
  rw [unw]
  simp only [Option.bind_assoc]
  rfl
theorem retK_ag_ex (i : Nat) (c : PC) : retK call loop (.ex i) s (.ag c :: k) κ = retK call loop (.ex i) s k κ := nr rfl
theorem retK_ag_rt (c : PC) : retK call loop .rt s (.ag c :: k) κ = retK call loop .rt s k κ := nr rfl
theorem retK_ag_pn (v : V) (c : PC) : retK call loop (.pn v) s (.ag c :: k) κ = retK call loop (.pn v) s k κ := nr rfl
theorem runK_sk : runK call loop .sk s k κ = retK call loop .nx s k κ := nr rfl
theorem runK_ex (i : Nat) : runK call loop (.ex i) s k κ = retK call loop (.ex i) s k κ := nr rfl
theorem runK_rt : runK call loop .rt s k κ = retK call loop .rt s k κ := nr rfl
theorem runK_lp (keep : List Nat) (own : List (Nat × Bool × TypeId)) (a : PC) : runK call loop (.lp keep own a) s k κ = lpK call loop (loop (.lp keep own a) s) k κ := nr rfl
theorem runK_rd (ops : List POp) (t : OT) (keep : List Nat) : runK call loop (.rd ops t keep) s k κ = lpK call loop (runT call ops keep t s) k κ := nr rfl
theorem runK_rg (ops : List POp) (keep : List Nat) : runK call loop (.rg ops keep) s k κ = opsK call loop ops keep s k κ := nr rfl
theorem runK_cd (c : Opd) (a b : PC) : runK call loop (.cd c a b) s k κ = brK call loop (ev s.env c) a b s k κ := by
  unfold runK brK
  rw [run_cd]
theorem runK_sq (a b : PC) : runK call loop (.sq a b) s k κ = runK call loop a s (.sq b :: k) κ := by
  unfold runK lpK retK
  rw [run_sq]
  unfold andThen
  rw [Option.bind_assoc]
  congr 1
  funext p
  rw [unw]
  obtain ⟨o, s⟩ := p
  cases o <;> simp only [Option.bind_assoc, Option.bind_some]
theorem runK_bk (id : Nat) (a : PC) : runK call loop (.bk id a) s k κ = runK call loop a s (.bk id :: k) κ := by
  unfold runK lpK retK
  rw [run_bk]
  unfold leave
  rw [Option.bind_assoc]
  congr 1
  funext p
  rw [unw]
  obtain ⟨o, s⟩ := p
  cases o with
  | ex j => cases h : j == id <;> simp only [h, cond_true, cond_false, go, Option.bind_some]
  | _ => simp only [Option.bind_some]
theorem opsK_nil (keep : List Nat) : opsK call loop [] keep s k κ = retK call loop .nx (prune keep s) k κ := nr rfl
theorem thK_nx (l : List POp) (keep : List Nat) : thK call loop (some (.nx, s)) l keep k κ = opsK call loop l keep s k κ := nr rfl
theorem thK_pn (v : V) (l : List POp) (keep : List Nat) : thK call loop (some (.pn v, s)) l keep k κ = retK call loop (.pn v) s k κ := nr rfl
theorem opsK_o (d : Nat) (op : PO) (l : List POp) (keep : List Nat) : opsK call loop (o d op :: l) keep s k κ = thK call loop (stepO call s (some d) op) l keep k κ := nr rfl
theorem opsK_on (op : PO) (l : List POp) (keep : List Nat) : opsK call loop (on op :: l) keep s k κ = thK call loop (stepO call s none op) l keep k κ := nr rfl
theorem opsK_og (d : Option Nat) (j : Nat) (w : Bool) (op : PO) (l : List POp) (keep : List Nat) : opsK call loop (og d j w op :: l) keep s k κ = gdK call loop (get s.env j) w d op l keep s k κ := by
  unfold opsK thK gdK
  rw [andThen_nx, runOps_og]
theorem gdK_tt (d : Option Nat) (op : PO) (l : List POp) (keep : List Nat) : gdK call loop (.im (.b true)) true d op l keep s k κ = thK call loop (stepO call s d op) l keep k κ := nr rfl
theorem gdK_ff (d : Option Nat) (op : PO) (l : List POp) (keep : List Nat) : gdK call loop (.im (.b false)) false d op l keep s k κ = thK call loop (stepO call s d op) l keep k κ := nr rfl
theorem gdK_tf (d : Option Nat) (op : PO) (l : List POp) (keep : List Nat) : gdK call loop (.im (.b true)) false d op l keep s k κ = opsK call loop l keep (s.put d (.tp [])) k κ := nr rfl
theorem gdK_ft (d : Option Nat) (op : PO) (l : List POp) (keep : List Nat) : gdK call loop (.im (.b false)) true d op l keep s k κ = opsK call loop l keep (s.put d (.tp [])) k κ := nr rfl
theorem gdK_u (w : Bool) (d : Option Nat) (op : PO) (l : List POp) (keep : List Nat) : gdK call loop (.tp []) w d op l keep s k κ = opsK call loop l keep (s.put d (.tp [])) k κ := nr rfl
theorem brK_t (a b : PC) : brK call loop (.im (.b true)) a b s k κ = runK call loop a s k κ := nr rfl
theorem brK_f (a b : PC) : brK call loop (.im (.b false)) a b s k κ = runK call loop b s k κ := nr rfl
theorem brK_cases {c : Bool} {a b : PC} {z : Option α} (h1 : c = true → runK call loop a s k κ = z) (h2 : c = false → runK call loop b s k κ = z) : brK call loop (.im (.b c)) a b s k κ = z := by
  cases c
  · exact h2 rfl
  · exact h1 rfl
theorem gdK_cases {c w : Bool} {d : Option Nat} {op : PO} {l : List POp} {keep : List Nat} {z : Option α} (h1 : c = true → gdK call loop (.im (.b true)) w d op l keep s k κ = z) (h2 : c = false → gdK call loop (.im (.b false)) w d op l keep s k κ = z) : gdK call loop (.im (.b c)) w d op l keep s k κ = z := by
  cases c
  · exact h2 rfl
  · exact h1 rfl
/-- A choice that is open, with two values of one form. -/
theorem thK_pick_cases {c : Bool} {x y : Option (Out × S)} {l : List POp} {keep : List Nat} {z : Option α} (h1 : c = true → thK call loop x l keep k κ = z) (h2 : c = false → thK call loop y l keep k κ = z) : thK call loop (ifB c x y) l keep k κ = z := by
  cases c
  · exact h2 rfl
  · exact h1 rfl
theorem thK_chk {c : Bool} {x : Option (Out × S)} {l : List POp} {keep : List Nat} {z : Option α} (h : c = true) (h1 : thK call loop x l keep k κ = z) : thK call loop (ifB c x none) l keep k κ = z := by
  subst h
  exact h1
end
def finK (pf : PF) (m : Nat) (p : Out × S) : Option Res := fend pf m (some p)
theorem finK_nx (pf : PF) (m : Nat) (s : S) : finK pf m (.nx, s) = finish pf m s := nr rfl
theorem finK_rt (pf : PF) (m : Nat) (s : S) : finK pf m (.rt, s) = finish pf m s := nr rfl
theorem finK_pn (pf : PF) (m : Nat) (v : V) (s : S) : finK pf m (.pn v, s) = (close m ⟨[(0, v)], s.obs⟩).bind fun q => some (.pan (get q.env 0) q.obs) := nr rfl
section
variable {call : CallF} {loop : LoopF}
theorem enterK {pf : PF} {args : List V} {obs : Obs} (h : (args.length == pf.np && decide (obs.length ≤ 1000) && (obs.zipIdx.all fun x => x.1.1 == x.2)) = true) :
    enter call loop pf args obs = runK call loop pf.code ⟨zipEnv 0 args, obs⟩ [] (finK pf obs.length) := by
  unfold enter
  rw [h, cond_true]
  unfold runK lpK fend finK
  congr 1
theorem againK (c : PC) (b : PC) (s : S) : again loop c (run call loop b s) = runK call loop b s [.ag c] some := by
  unfold again runK lpK retK
  congr 1
  funext p
  obtain ⟨o, s⟩ := p
  rw [unw]
  cases o <;> simp only [Option.bind_some, unw] <;> (try cases loop c s <;> rfl)
end
/-- Behind a call. -/
def aftC (s : S) (held R : List Nat) (d : Option Nat) : Option Res → Option (Out × S)
  | some (.ret vs obs) => ((bif vs.all V.plain && R.isEmpty && obs.isEmpty then s else s.fasts held).back R d vs obs).bind fun s2 => go (s2.put d (match V.renL (backId R (nid d)) vs with
        | [v] => v
        | vs => .tp vs))
  | some (.pan v obs) => ((s.fasts held).back R d [v] obs).bind fun s2 => some (.pn (v.ren (backId R (nid d))), s2)
  | none => none
def V.one : List V → V
  | [v] => v
  | vs => .tp vs
theorem aftC_ret (s : S) (held R : List Nat) (d : Option Nat) (vs : List V) (obs : Obs) : aftC s held R d (some (.ret vs obs)) = ((bif vs.all V.plain && R.isEmpty && obs.isEmpty then s else s.fasts held).back R d vs obs).bind fun s2 => go (s2.put d (V.one (V.renL (backId R (nid d)) vs))) := nr rfl
theorem aftC_pan (s : S) (held R : List Nat) (d : Option Nat) (v : V) (obs : Obs) : aftC s held R d (some (.pan v obs)) = ((s.fasts held).back R d [v] obs).bind fun s2 => some (.pn (v.ren (backId R (nid d))), s2) := nr rfl
theorem doCall_aft (call : CallF) (s : S) (d : Option Nat) (f : FuncId) (args : List V) : doCall call s d f args =
    bif ((ownerL args).any fun o => (reachO s.obs 64 (V.idsL (V.snapL s.obs args)) []).elem o) || !((V.idsL (V.snapL s.obs args)).all fun o => (reachO s.obs 64 (V.idsL (V.snapL s.obs args)) []).elem o) || !((pickObs s.obs (reachO s.obs 64 (V.idsL (V.snapL s.obs args)) [])).named.all fun o => (reachO s.obs 64 (V.idsL (V.snapL s.obs args)) []).elem o) || !(boxes s.obs (reachO s.obs 64 (V.idsL (V.snapL s.obs args)) [])) then none else
      aftC s (ownerL args) (reachO s.obs 64 (V.idsL (V.snapL s.obs args)) []) d (call f (V.renL (posOf (reachO s.obs 64 (V.idsL (V.snapL s.obs args)) []) 0) (V.snapL s.obs args)) (mapIds (posOf (reachO s.obs 64 (V.idsL (V.snapL s.obs args)) []) 0) (pickObs s.obs (reachO s.obs 64 (V.idsL (V.snapL s.obs args)) [])))) := by
  unfold doCall
  simp only
  congr 1
  generalize call f _ _ = r
  cases r with
  | none => rfl
  | some r => cases r <;> rfl
theorem lpK_end {call : CallF} {loop : LoopF} (r : Option (Out × S)) : lpK call loop r [] some = r := by
  cases r <;> rfl
attribute [go_sem] boxes lpK_end doCall_aft aftC_ret aftC_pan V.one retK_nil lpK_some retK_sq retK_sq_ex retK_sq_rt retK_sq_pn retK_bk retK_bk_ex retK_bk_rt retK_bk_pn retK_ag retK_ag_ex retK_ag_rt retK_ag_pn runK_sk runK_ex runK_rt runK_rd runK_rg runK_cd runK_sq runK_bk
  opsK_nil thK_nx thK_pn opsK_o opsK_on opsK_og gdK_tt gdK_ff gdK_tf gdK_ft gdK_u brK_t brK_f finK_nx finK_rt finK_pn
end Go.Proofs.Av
