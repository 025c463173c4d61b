/- The table of the functions, and the evaluator over it. -/
import Derived.Test.YtcfjcoglhimdeaaDoorAvGen
import Derived.Test.YtcfjcoglhimdeaaDoorAvS
import Derived.Lib.TrimU
import Derived.Lib.Small
import Derived.Lib.IndexMore
import Derived.Lib.RuneBytes
import Derived.Lib.SlTrimSet
import Derived.Lib.Bytes2
set_option linter.unusedSimpArgs false
set_option linter.unusedVariables false
namespace Go.Proofs.Av
def tabL : List (FuncId × PF) := [(f_dossierlaw05_XmllexGoes, p_dossierlaw05_XmllexGoes), (f_xmllex_Next, p_xmllex_Next), (f_dossierlaw05_awake, p_dossierlaw05_awake), (f_xmllex_Skip, p_xmllex_Skip), (f_xmllex_scan_token, p_xmllex_scan_token), (f_xmllex_comment, p_xmllex_comment), (f_xmllex_instruction, p_xmllex_instruction), (f_xmllex_scan_token_1, p_xmllex_scan_token_1), (f_xmllex_scan_literal, p_xmllex_scan_literal), (f_xmllex_scan_closing, p_xmllex_scan_closing), (f_xmllex_scan_opening, p_xmllex_scan_opening), (f_xmllex_scan_text, p_xmllex_scan_text), (f_xmllex_nameOf, p_xmllex_nameOf), (f_chars_Space, p_chars_Space), (f_xmllex_scan_take, p_xmllex_scan_take), (f_xmllex_lines, p_xmllex_lines), (f_xmllex_scan_name, p_xmllex_scan_name), (f_xmllex_scan_blanks, p_xmllex_scan_blanks), (f_xmllex_scan_attribute, p_xmllex_scan_attribute), (f_xmllex_resolve, p_xmllex_resolve), (f_chars_Decode, p_chars_Decode), (f_chars_First, p_chars_First), (f_chars_Later, p_chars_Later), (f_xmllex_fullName, p_xmllex_fullName), (f_xmllex_trimmed, p_xmllex_trimmed), (f_xmllex_scan_value, p_xmllex_scan_value), (f_xmllex_named, p_xmllex_named), (f_chars_Encode, p_chars_Encode), (f_chars_in, p_chars_in), (f_xmllex_numeral, p_xmllex_numeral), (f_chars_Wrong, p_chars_Wrong), (f_chars_ofXML, p_chars_ofXML)]
def tab (k : FuncId) : Option PF := (tabL.find? fun x => x.1 == k).map (·.2)
/-! ### Go's library -/
def decG (l : List UInt8) : Nat × Nat := Lib.decodeGoB ⟨l.toArray⟩
def l_DecodeRune : List V → Obs → Option Res
  | [.im (.by_ _ l)], [] => some (.ret [.im (.i .i32 ((decG l).1 : Int)), .im (.i .i64 ((decG l).2 : Int))] [])
  | _, _ => none
def l_ValidRune : List V → Obs → Option Res
  | [.im (.i .i32 r)], [] => some (.ret [.im (.b (Lib.validRune r))] [])
  | _, _ => none
def l_AppendRune : List V → Obs → Option Res
  | [.im (.by_ true []), .im (.i .i32 r)], [] => some (.ret [.im (.by_ false (Lib.encodeRune r))] [])
  | _, _ => none
def l_HasPrefix : List V → Obs → Option Res
  | [.im (.by_ _ l), .im (.by_ _ p)], [] => some (.ret [.im (.b (Lib.hasPrefix l p))] [])
  | _, _ => none
def l_CutPrefix : List V → Obs → Option Res
  | [.im (.by_ z l), .im (.by_ _ p)], [] => some (.ret [.im (.by_ z (Lib.trimPrefix l p)), .im (.b (Lib.hasPrefix l p))] [])
  | _, _ => none
def small (l : List UInt8) : Bool := decide (l.length < 4294967281)
def l_Cut : List V → Obs → Option Res
  | [.im (.by_ z l), .im (.by_ _ p)], [] => ifB (small l) (some (.ret [.im (.by_ z (Lib.cut l p).1), .im (.by_ (!(Lib.cut l p).2.2) (Lib.cut l p).2.1), .im (.b (Lib.cut l p).2.2)] [])) none
  | _, _ => none
def l_IndexByte : List V → Obs → Option Res
  | [.im (.by_ _ l), .im (.i .u8 c)], [] => some (.ret [.im (.i .i64 (Lib.indexByte l (UInt8.ofNat c.toNat)))] [])
  | _, _ => none
def l_Index : List V → Obs → Option Res
  | [.im (.by_ _ l), .im (.by_ _ p)], [] => ifB (small l) (some (.ret [.im (.i .i64 (Lib.index l p))] [])) none
  | _, _ => none
def l_Contains : List V → Obs → Option Res
  | [.im (.by_ _ l), .im (.by_ _ p)], [] => ifB (small l) (some (.ret [.im (.b (Lib.contains l p))] [])) none
  | _, _ => none
def l_TrimLeft : List V → Obs → Option Res
  | [.im (.by_ _ l), .im (.s cs)], [] => ifB (cs == [32, 9, 10, 13]) (some (.ret [.im (.by_ (Lib.trimLeftS l cs).isEmpty (Lib.trimLeftS l cs))] [])) none
  | _, _ => none
def l_sCutPrefix : List V → Obs → Option Res
  | [.im (.s l), .im (.s p)], [] => some (.ret [.im (.s (Lib.trimPrefix l p)), .im (.b (Lib.hasPrefix l p))] [])
  | _, _ => none
def l_sIndexByte : List V → Obs → Option Res
  | [.im (.s l), .im (.i .u8 c)], [] => some (.ret [.im (.i .i64 (Lib.indexByte l (UInt8.ofNat c.toNat)))] [])
  | _, _ => none
/-- bytes.ReplaceAll. -/
def replAll (old new : List UInt8) : Nat → List UInt8 → List UInt8
  | 0, l => l
  | n + 1, l => if 0 ≤ Lib.index l old then l.take (Lib.index l old).toNat ++ new ++ replAll old new n (l.drop ((Lib.index l old).toNat + old.length)) else l
def l_ReplaceAll : List V → Obs → Option Res
  | [.im (.by_ _ l), .im (.by_ _ p), .im (.by_ _ q)], [] => ifB (decide (l.length ≤ 1048576) && !p.isEmpty && decide (q.length ≤ p.length)) (some (.ret [.im (.by_ false (replAll p q l.length l))] [])) none
  | _, _ => none
/-- bytes.Buffer: nothing written yet; or a row. -/
def l_Write : List V → Obs → Option Res
  | [.rf 0 0, .im (.by_ _ p)], [(0, .box [.im (.by_ true []), .im (.i .i64 0), .im (.i .i8 0)])] => ifB (decide (p.length ≤ 1048576)) (some (.ret [.im (.i .i64 (p.length : Int)), .un] [(0, .box [.ow 1, .im (.i .i64 0), .im (.i .i8 0)]), (1, .row t_uint8 (.by_ false p))])) none
  | [.rf 0 0, .im (.by_ _ p)], [(0, .box [.ow 1, .im (.i .i64 0), .im (.i .i8 0)]), (1, .row e (.by_ false l))] => ifB (e == t_uint8 && decide (p.length ≤ 1048576) && decide (l.length ≤ 67108864)) (some (.ret [.im (.i .i64 (p.length : Int)), .un] [(0, .box [.ow 2, .im (.i .i64 0), .im (.i .i8 0)]), (2, .row t_uint8 (.by_ false (l ++ p)))])) none
  | _, _ => none
def l_String : List V → Obs → Option Res
  | [.rf 0 0], [(0, .box [.ow 1, .im (.i .i64 0), .im (.i .i8 0)]), (1, .row e (.by_ false l))] => ifB (e == t_uint8 && decide (l.length ≤ 67108864)) (some (.ret [.im (.s l)] [(0, .box [.ow 1, .im (.i .i64 0), .im (.i .i8 0)]), (1, .row e (.by_ false l))])) none
  | _, _ => none
def libL : List (FuncId × (List V → Obs → Option Res)) := [(f_unicode_utf8_DecodeRune, l_DecodeRune), (f_unicode_utf8_ValidRune, l_ValidRune), (f_unicode_utf8_AppendRune, l_AppendRune), (f_bytes_HasPrefix, l_HasPrefix), (f_bytes_CutPrefix, l_CutPrefix), (f_bytes_Cut, l_Cut), (f_bytes_IndexByte, l_IndexByte), (f_bytes_Index, l_Index), (f_bytes_Contains, l_Contains), (f_bytes_TrimLeft, l_TrimLeft), (f_strings_CutPrefix, l_sCutPrefix), (f_strings_IndexByte, l_sIndexByte), (f_bytes_ReplaceAll, l_ReplaceAll), (f_bytes_Buffer_Write, l_Write), (f_bytes_Buffer_String, l_String)]
def lib : CallF := fun k args obs => match libL.find? (fun x => x.1 == k) with
  | some x => x.2 args obs
  | none => none
noncomputable def ev' : CallF := evL tab lib
noncomputable def lp' : LoopF := lpL tab lib
theorem ev_lib {k : FuncId} {f : List V → Obs → Option Res} (h : libL.find? (fun x => x.1 == k) = some (k, f)) {args : List V} {obs : Obs} {r : Res} (hr : f args obs = some r) : ev' k args obs = some r := by
  unfold ev'
  rw [evL_eq]
  have : lib k args obs = some r := by unfold lib; rw [h]; exact hr
  rw [this]
theorem ev_go {k : FuncId} {pf : PF} (h : tab k = some pf) (hl : libL.find? (fun x => x.1 == k) = none) (args : List V) (obs : Obs) : ev' k args obs = enter ev' lp' pf args obs := by
  unfold ev' lp'
  rw [evL_eq]
  have : lib k args obs = none := by unfold lib; rw [hl]
  rw [this, h]
theorem lp_go (c : PC) (s : S) : lp' c s = round ev' lp' c s := lpL_eq tab lib c s
theorem e_dossierlaw05_XmllexGoes : ∀ args obs, ev' f_dossierlaw05_XmllexGoes args obs = enter ev' lp' p_dossierlaw05_XmllexGoes args obs := ev_go rfl rfl
theorem e_xmllex_Next : ∀ args obs, ev' f_xmllex_Next args obs = enter ev' lp' p_xmllex_Next args obs := ev_go rfl rfl
theorem e_dossierlaw05_awake : ∀ args obs, ev' f_dossierlaw05_awake args obs = enter ev' lp' p_dossierlaw05_awake args obs := ev_go rfl rfl
theorem e_xmllex_Skip : ∀ args obs, ev' f_xmllex_Skip args obs = enter ev' lp' p_xmllex_Skip args obs := ev_go rfl rfl
theorem e_xmllex_scan_token : ∀ args obs, ev' f_xmllex_scan_token args obs = enter ev' lp' p_xmllex_scan_token args obs := ev_go rfl rfl
theorem e_xmllex_comment : ∀ args obs, ev' f_xmllex_comment args obs = enter ev' lp' p_xmllex_comment args obs := ev_go rfl rfl
theorem e_xmllex_instruction : ∀ args obs, ev' f_xmllex_instruction args obs = enter ev' lp' p_xmllex_instruction args obs := ev_go rfl rfl
theorem e_xmllex_scan_token_1 : ∀ args obs, ev' f_xmllex_scan_token_1 args obs = enter ev' lp' p_xmllex_scan_token_1 args obs := ev_go rfl rfl
theorem e_xmllex_scan_literal : ∀ args obs, ev' f_xmllex_scan_literal args obs = enter ev' lp' p_xmllex_scan_literal args obs := ev_go rfl rfl
theorem e_xmllex_scan_closing : ∀ args obs, ev' f_xmllex_scan_closing args obs = enter ev' lp' p_xmllex_scan_closing args obs := ev_go rfl rfl
theorem e_xmllex_scan_opening : ∀ args obs, ev' f_xmllex_scan_opening args obs = enter ev' lp' p_xmllex_scan_opening args obs := ev_go rfl rfl
theorem e_xmllex_scan_text : ∀ args obs, ev' f_xmllex_scan_text args obs = enter ev' lp' p_xmllex_scan_text args obs := ev_go rfl rfl
theorem e_xmllex_nameOf : ∀ args obs, ev' f_xmllex_nameOf args obs = enter ev' lp' p_xmllex_nameOf args obs := ev_go rfl rfl
theorem e_chars_Space : ∀ args obs, ev' f_chars_Space args obs = enter ev' lp' p_chars_Space args obs := ev_go rfl rfl
theorem e_xmllex_scan_take : ∀ args obs, ev' f_xmllex_scan_take args obs = enter ev' lp' p_xmllex_scan_take args obs := ev_go rfl rfl
theorem e_xmllex_lines : ∀ args obs, ev' f_xmllex_lines args obs = enter ev' lp' p_xmllex_lines args obs := ev_go rfl rfl
theorem e_xmllex_scan_name : ∀ args obs, ev' f_xmllex_scan_name args obs = enter ev' lp' p_xmllex_scan_name args obs := ev_go rfl rfl
theorem e_xmllex_scan_blanks : ∀ args obs, ev' f_xmllex_scan_blanks args obs = enter ev' lp' p_xmllex_scan_blanks args obs := ev_go rfl rfl
theorem e_xmllex_scan_attribute : ∀ args obs, ev' f_xmllex_scan_attribute args obs = enter ev' lp' p_xmllex_scan_attribute args obs := ev_go rfl rfl
theorem e_xmllex_resolve : ∀ args obs, ev' f_xmllex_resolve args obs = enter ev' lp' p_xmllex_resolve args obs := ev_go rfl rfl
theorem e_chars_Decode : ∀ args obs, ev' f_chars_Decode args obs = enter ev' lp' p_chars_Decode args obs := ev_go rfl rfl
theorem e_chars_First : ∀ args obs, ev' f_chars_First args obs = enter ev' lp' p_chars_First args obs := ev_go rfl rfl
theorem e_chars_Later : ∀ args obs, ev' f_chars_Later args obs = enter ev' lp' p_chars_Later args obs := ev_go rfl rfl
theorem e_xmllex_fullName : ∀ args obs, ev' f_xmllex_fullName args obs = enter ev' lp' p_xmllex_fullName args obs := ev_go rfl rfl
theorem e_xmllex_trimmed : ∀ args obs, ev' f_xmllex_trimmed args obs = enter ev' lp' p_xmllex_trimmed args obs := ev_go rfl rfl
theorem e_xmllex_scan_value : ∀ args obs, ev' f_xmllex_scan_value args obs = enter ev' lp' p_xmllex_scan_value args obs := ev_go rfl rfl
theorem e_xmllex_named : ∀ args obs, ev' f_xmllex_named args obs = enter ev' lp' p_xmllex_named args obs := ev_go rfl rfl
theorem e_chars_Encode : ∀ args obs, ev' f_chars_Encode args obs = enter ev' lp' p_chars_Encode args obs := ev_go rfl rfl
theorem e_chars_in : ∀ args obs, ev' f_chars_in args obs = enter ev' lp' p_chars_in args obs := ev_go rfl rfl
theorem e_xmllex_numeral : ∀ args obs, ev' f_xmllex_numeral args obs = enter ev' lp' p_xmllex_numeral args obs := ev_go rfl rfl
theorem e_chars_Wrong : ∀ args obs, ev' f_chars_Wrong args obs = enter ev' lp' p_chars_Wrong args obs := ev_go rfl rfl
theorem e_chars_ofXML : ∀ args obs, ev' f_chars_ofXML args obs = enter ev' lp' p_chars_ofXML args obs := ev_go rfl rfl
theorem named_nil : Obs.named [] = [] := rfl
theorem named_cons (a : Nat) (x : Ob) (l : Obs) : Obs.named ((a, x) :: l) = x.ids ++ Obs.named l := rfl
theorem keys_nil : Obs.keys [] = [] := rfl
theorem keys_cons (a : Nat) (x : Ob) (l : Obs) : Obs.keys ((a, x) :: l) = a :: Obs.keys l := rfl
section
variable (call : CallF) (loop : LoopF)
theorem enter_eq (pf : PF) (args : List V) (obs : Obs) : enter call loop pf args obs = bif args.length == pf.np && decide (obs.length ≤ 1000) && (obs.zipIdx.all fun x => x.1.1 == x.2) then fend pf obs.length (run call loop pf.code ⟨zipEnv 0 args, obs⟩) else none := rfl
theorem stepT_zero (o : POp) (r : List POp) (s : S) (k : S → Option (Out × S)) : stepT call (o :: r) 0 s k = behind (runOps call [o] s) k := rfl
theorem stepT_succ (o : POp) (r : List POp) (i : Nat) (s : S) (k : S → Option (Out × S)) : stepT call (o :: r) (i + 1) s k = stepT call r i s k := rfl
end
attribute [go_sem] named_nil named_cons keys_nil keys_cons stepT_zero stepT_succ runT_one runT_br runT_alt1 runT_alt2 runOps_o runOps_on runOps_og guarded_t guarded_f guarded_u List.zipIdx_nil List.zipIdx_cons both_self
theorem ifB_cases {α : Type} {c : Bool} {x y z : α} (h : c = true → x = z) (k : c = false → y = z) : ifB c x y = z := by
  cases c
  · exact k rfl
  · exact h rfl
theorem ifB_bool {α : Type} (c : Bool) (x y : α) : ifB c x y = if c then x else y := by cases c <;> rfl
theorem wrap_i64 {n : Int} (h : -9223372036854775808 ≤ n) (k : n ≤ 9223372036854775807) : IntKind.wrap .i64 n = n := by
  simp [IntKind.wrap, IntKind.bits, IntKind.signed]
  split <;> omega
theorem rl_xmllex_Skip_0 {call : CallF} {loop : LoopF} (s : S) : run call loop l_xmllex_Skip_0 s = loop l_xmllex_Skip_0 s := rfl
theorem rk_xmllex_Skip_0 {α : Type} {call : CallF} {loop : LoopF} {s : S} {k : List Kf} {κ : Out × S → Option α} : runK call loop l_xmllex_Skip_0 s k κ = lpK call loop (loop l_xmllex_Skip_0 s) k κ := nr rfl
noncomputable def nx_xmllex_Skip_0 (s : S) : Option (Out × S) := runK ev' lp' b_xmllex_Skip_0 s [.ag l_xmllex_Skip_0] some
theorem lg_xmllex_Skip_0 (s : S) : lp' l_xmllex_Skip_0 s = (norm [0, 1] [] s).bind nx_xmllex_Skip_0 := by
  rw [lp_go]
  unfold nx_xmllex_Skip_0
  simp only [← againK]
  rfl
theorem rl_xmllex_scan_opening_0 {call : CallF} {loop : LoopF} (s : S) : run call loop l_xmllex_scan_opening_0 s = loop l_xmllex_scan_opening_0 s := rfl
theorem rk_xmllex_scan_opening_0 {α : Type} {call : CallF} {loop : LoopF} {s : S} {k : List Kf} {κ : Out × S → Option α} : runK call loop l_xmllex_scan_opening_0 s k κ = lpK call loop (loop l_xmllex_scan_opening_0 s) k κ := nr rfl
noncomputable def nx_xmllex_scan_opening_0 (s : S) : Option (Out × S) := runK ev' lp' b_xmllex_scan_opening_0 s [.ag l_xmllex_scan_opening_0] some
theorem lg_xmllex_scan_opening_0 (s : S) : lp' l_xmllex_scan_opening_0 s = (norm [0, 2, 3] [] s).bind nx_xmllex_scan_opening_0 := by
  rw [lp_go]
  unfold nx_xmllex_scan_opening_0
  simp only [← againK]
  rfl
theorem rl_xmllex_nameOf_0 {call : CallF} {loop : LoopF} (s : S) : run call loop l_xmllex_nameOf_0 s = loop l_xmllex_nameOf_0 s := rfl
theorem rk_xmllex_nameOf_0 {α : Type} {call : CallF} {loop : LoopF} {s : S} {k : List Kf} {κ : Out × S → Option α} : runK call loop l_xmllex_nameOf_0 s k κ = lpK call loop (loop l_xmllex_nameOf_0 s) k κ := nr rfl
noncomputable def nx_xmllex_nameOf_0 (s : S) : Option (Out × S) := runK ev' lp' b_xmllex_nameOf_0 s [.ag l_xmllex_nameOf_0] some
theorem lg_xmllex_nameOf_0 (s : S) : lp' l_xmllex_nameOf_0 s = (norm [0, 3] [] s).bind nx_xmllex_nameOf_0 := by
  rw [lp_go]
  unfold nx_xmllex_nameOf_0
  simp only [← againK]
  rfl
theorem rl_xmllex_resolve_0 {call : CallF} {loop : LoopF} (s : S) : run call loop l_xmllex_resolve_0 s = loop l_xmllex_resolve_0 s := rfl
theorem rk_xmllex_resolve_0 {α : Type} {call : CallF} {loop : LoopF} {s : S} {k : List Kf} {κ : Out × S → Option α} : runK call loop l_xmllex_resolve_0 s k κ = lpK call loop (loop l_xmllex_resolve_0 s) k κ := nr rfl
noncomputable def nx_xmllex_resolve_0 (s : S) : Option (Out × S) := runK ev' lp' b_xmllex_resolve_0 s [.ag l_xmllex_resolve_0] some
theorem lg_xmllex_resolve_0 (s : S) : lp' l_xmllex_resolve_0 s = (norm [0, 1, 7, 9] [] s).bind nx_xmllex_resolve_0 := by
  rw [lp_go]
  unfold nx_xmllex_resolve_0
  simp only [← againK]
  rfl
theorem rl_xmllex_scan_value_0 {call : CallF} {loop : LoopF} (s : S) : run call loop l_xmllex_scan_value_0 s = loop l_xmllex_scan_value_0 s := rfl
theorem rk_xmllex_scan_value_0 {α : Type} {call : CallF} {loop : LoopF} {s : S} {k : List Kf} {κ : Out × S → Option α} : runK call loop l_xmllex_scan_value_0 s k κ = lpK call loop (loop l_xmllex_scan_value_0 s) k κ := nr rfl
noncomputable def nx_xmllex_scan_value_0 (s : S) : Option (Out × S) := runK ev' lp' b_xmllex_scan_value_0 s [.ag l_xmllex_scan_value_0] some
theorem lg_xmllex_scan_value_0 (s : S) : lp' l_xmllex_scan_value_0 s = (norm [0, 9, 10] [] s).bind nx_xmllex_scan_value_0 := by
  rw [lp_go]
  unfold nx_xmllex_scan_value_0
  simp only [← againK]
  rfl
theorem rl_chars_in_0 {call : CallF} {loop : LoopF} (s : S) : run call loop l_chars_in_0 s = loop l_chars_in_0 s := rfl
theorem rk_chars_in_0 {α : Type} {call : CallF} {loop : LoopF} {s : S} {k : List Kf} {κ : Out × S → Option α} : runK call loop l_chars_in_0 s k κ = lpK call loop (loop l_chars_in_0 s) k κ := nr rfl
noncomputable def nx_chars_in_0 (s : S) : Option (Out × S) := runK ev' lp' b_chars_in_0 s [.ag l_chars_in_0] some
theorem lg_chars_in_0 (s : S) : lp' l_chars_in_0 s = (norm [0, 7, 8, 9] [] s).bind nx_chars_in_0 := by
  rw [lp_go]
  unfold nx_chars_in_0
  simp only [← againK]
  rfl
theorem rl_xmllex_numeral_0 {call : CallF} {loop : LoopF} (s : S) : run call loop l_xmllex_numeral_0 s = loop l_xmllex_numeral_0 s := rfl
theorem rk_xmllex_numeral_0 {α : Type} {call : CallF} {loop : LoopF} {s : S} {k : List Kf} {κ : Out × S → Option α} : runK call loop l_xmllex_numeral_0 s k κ = lpK call loop (loop l_xmllex_numeral_0 s) k κ := nr rfl
noncomputable def nx_xmllex_numeral_0 (s : S) : Option (Out × S) := runK ev' lp' b_xmllex_numeral_0 s [.ag l_xmllex_numeral_0] some
theorem lg_xmllex_numeral_0 (s : S) : lp' l_xmllex_numeral_0 s = (norm [0, 1, 6, 11, 12, 13] [] s).bind nx_xmllex_numeral_0 := by
  rw [lp_go]
  unfold nx_xmllex_numeral_0
  simp only [← againK]
  rfl
theorem rl_chars_Wrong_0 {call : CallF} {loop : LoopF} (s : S) : run call loop l_chars_Wrong_0 s = loop l_chars_Wrong_0 s := rfl
theorem rk_chars_Wrong_0 {α : Type} {call : CallF} {loop : LoopF} {s : S} {k : List Kf} {κ : Out × S → Option α} : runK call loop l_chars_Wrong_0 s k κ = lpK call loop (loop l_chars_Wrong_0 s) k κ := nr rfl
noncomputable def nx_chars_Wrong_0 (s : S) : Option (Out × S) := runK ev' lp' b_chars_Wrong_0 s [.ag l_chars_Wrong_0] some
theorem lg_chars_Wrong_0 (s : S) : lp' l_chars_Wrong_0 s = (norm [0, 3] [] s).bind nx_chars_Wrong_0 := by
  rw [lp_go]
  unfold nx_chars_Wrong_0
  simp only [← againK]
  rfl
theorem pc_dossierlaw05_XmllexGoes : p_dossierlaw05_XmllexGoes.code = c_dossierlaw05_XmllexGoes := rfl
theorem pr_dossierlaw05_XmllexGoes : p_dossierlaw05_XmllexGoes.res = [.t 4] := rfl
theorem po_dossierlaw05_XmllexGoes : p_dossierlaw05_XmllexGoes.own = [] := rfl
attribute [go_sem] pc_dossierlaw05_XmllexGoes pr_dossierlaw05_XmllexGoes po_dossierlaw05_XmllexGoes
theorem g_dossierlaw05_XmllexGoes {args : List V} {obs : Obs} (h : (args.length == p_dossierlaw05_XmllexGoes.np && decide (obs.length ≤ 1000) && (obs.zipIdx.all fun x => x.1.1 == x.2)) = true) : ev' f_dossierlaw05_XmllexGoes args obs = runK ev' lp' p_dossierlaw05_XmllexGoes.code ⟨zipEnv 0 args, obs⟩ [] (finK p_dossierlaw05_XmllexGoes obs.length) := by rw [e_dossierlaw05_XmllexGoes, enterK h]
theorem pc_xmllex_Next : p_xmllex_Next.code = c_xmllex_Next := rfl
theorem pr_xmllex_Next : p_xmllex_Next.res = [.c 4 (some 5), .t 5, .t 6] := rfl
theorem po_xmllex_Next : p_xmllex_Next.own = [] := rfl
attribute [go_sem] pc_xmllex_Next pr_xmllex_Next po_xmllex_Next
theorem g_xmllex_Next {args : List V} {obs : Obs} (h : (args.length == p_xmllex_Next.np && decide (obs.length ≤ 1000) && (obs.zipIdx.all fun x => x.1.1 == x.2)) = true) : ev' f_xmllex_Next args obs = runK ev' lp' p_xmllex_Next.code ⟨zipEnv 0 args, obs⟩ [] (finK p_xmllex_Next obs.length) := by rw [e_xmllex_Next, enterK h]
theorem pc_dossierlaw05_awake : p_dossierlaw05_awake.code = c_dossierlaw05_awake := rfl
theorem pr_dossierlaw05_awake : p_dossierlaw05_awake.res = [.t 0] := rfl
theorem po_dossierlaw05_awake : p_dossierlaw05_awake.own = [] := rfl
attribute [go_sem] pc_dossierlaw05_awake pr_dossierlaw05_awake po_dossierlaw05_awake
theorem g_dossierlaw05_awake {args : List V} {obs : Obs} (h : (args.length == p_dossierlaw05_awake.np && decide (obs.length ≤ 1000) && (obs.zipIdx.all fun x => x.1.1 == x.2)) = true) : ev' f_dossierlaw05_awake args obs = runK ev' lp' p_dossierlaw05_awake.code ⟨zipEnv 0 args, obs⟩ [] (finK p_dossierlaw05_awake obs.length) := by rw [e_dossierlaw05_awake, enterK h]
theorem pc_xmllex_Skip : p_xmllex_Skip.code = c_xmllex_Skip := rfl
theorem pr_xmllex_Skip : p_xmllex_Skip.res = [.t 4, .t 5] := rfl
theorem po_xmllex_Skip : p_xmllex_Skip.own = [] := rfl
attribute [go_sem] pc_xmllex_Skip pr_xmllex_Skip po_xmllex_Skip
theorem g_xmllex_Skip {args : List V} {obs : Obs} (h : (args.length == p_xmllex_Skip.np && decide (obs.length ≤ 1000) && (obs.zipIdx.all fun x => x.1.1 == x.2)) = true) : ev' f_xmllex_Skip args obs = runK ev' lp' p_xmllex_Skip.code ⟨zipEnv 0 args, obs⟩ [] (finK p_xmllex_Skip obs.length) := by rw [e_xmllex_Skip, enterK h]
theorem pc_xmllex_scan_token : p_xmllex_scan_token.code = c_xmllex_scan_token := rfl
theorem pr_xmllex_scan_token : p_xmllex_scan_token.res = [.c 2 (some 5)] := rfl
theorem po_xmllex_scan_token : p_xmllex_scan_token.own = [] := rfl
attribute [go_sem] pc_xmllex_scan_token pr_xmllex_scan_token po_xmllex_scan_token
theorem g_xmllex_scan_token {args : List V} {obs : Obs} (h : (args.length == p_xmllex_scan_token.np && decide (obs.length ≤ 1000) && (obs.zipIdx.all fun x => x.1.1 == x.2)) = true) : ev' f_xmllex_scan_token args obs = runK ev' lp' p_xmllex_scan_token.code ⟨zipEnv 0 args, obs⟩ [] (finK p_xmllex_scan_token obs.length) := by rw [e_xmllex_scan_token, enterK h]
theorem pc_xmllex_comment : p_xmllex_comment.code = c_xmllex_comment := rfl
theorem pr_xmllex_comment : p_xmllex_comment.res = [.t 2] := rfl
theorem po_xmllex_comment : p_xmllex_comment.own = [] := rfl
attribute [go_sem] pc_xmllex_comment pr_xmllex_comment po_xmllex_comment
theorem g_xmllex_comment {args : List V} {obs : Obs} (h : (args.length == p_xmllex_comment.np && decide (obs.length ≤ 1000) && (obs.zipIdx.all fun x => x.1.1 == x.2)) = true) : ev' f_xmllex_comment args obs = runK ev' lp' p_xmllex_comment.code ⟨zipEnv 0 args, obs⟩ [] (finK p_xmllex_comment obs.length) := by rw [e_xmllex_comment, enterK h]
theorem pc_xmllex_instruction : p_xmllex_instruction.code = c_xmllex_instruction := rfl
theorem pr_xmllex_instruction : p_xmllex_instruction.res = [.t 2] := rfl
theorem po_xmllex_instruction : p_xmllex_instruction.own = [] := rfl
attribute [go_sem] pc_xmllex_instruction pr_xmllex_instruction po_xmllex_instruction
theorem g_xmllex_instruction {args : List V} {obs : Obs} (h : (args.length == p_xmllex_instruction.np && decide (obs.length ≤ 1000) && (obs.zipIdx.all fun x => x.1.1 == x.2)) = true) : ev' f_xmllex_instruction args obs = runK ev' lp' p_xmllex_instruction.code ⟨zipEnv 0 args, obs⟩ [] (finK p_xmllex_instruction obs.length) := by rw [e_xmllex_instruction, enterK h]
theorem pc_xmllex_scan_token_1 : p_xmllex_scan_token_1.code = c_xmllex_scan_token_1 := rfl
theorem pr_xmllex_scan_token_1 : p_xmllex_scan_token_1.res = [.t 3] := rfl
theorem po_xmllex_scan_token_1 : p_xmllex_scan_token_1.own = [] := rfl
attribute [go_sem] pc_xmllex_scan_token_1 pr_xmllex_scan_token_1 po_xmllex_scan_token_1
theorem g_xmllex_scan_token_1 {args : List V} {obs : Obs} (h : (args.length == p_xmllex_scan_token_1.np && decide (obs.length ≤ 1000) && (obs.zipIdx.all fun x => x.1.1 == x.2)) = true) : ev' f_xmllex_scan_token_1 args obs = runK ev' lp' p_xmllex_scan_token_1.code ⟨zipEnv 0 args, obs⟩ [] (finK p_xmllex_scan_token_1 obs.length) := by rw [e_xmllex_scan_token_1, enterK h]
theorem pc_xmllex_scan_literal : p_xmllex_scan_literal.code = c_xmllex_scan_literal := rfl
theorem pr_xmllex_scan_literal : p_xmllex_scan_literal.res = [.c 2 (some 5)] := rfl
theorem po_xmllex_scan_literal : p_xmllex_scan_literal.own = [] := rfl
attribute [go_sem] pc_xmllex_scan_literal pr_xmllex_scan_literal po_xmllex_scan_literal
theorem g_xmllex_scan_literal {args : List V} {obs : Obs} (h : (args.length == p_xmllex_scan_literal.np && decide (obs.length ≤ 1000) && (obs.zipIdx.all fun x => x.1.1 == x.2)) = true) : ev' f_xmllex_scan_literal args obs = runK ev' lp' p_xmllex_scan_literal.code ⟨zipEnv 0 args, obs⟩ [] (finK p_xmllex_scan_literal obs.length) := by rw [e_xmllex_scan_literal, enterK h]
theorem pc_xmllex_scan_closing : p_xmllex_scan_closing.code = c_xmllex_scan_closing := rfl
theorem pr_xmllex_scan_closing : p_xmllex_scan_closing.res = [.c 2 (some 5)] := rfl
theorem po_xmllex_scan_closing : p_xmllex_scan_closing.own = [] := rfl
attribute [go_sem] pc_xmllex_scan_closing pr_xmllex_scan_closing po_xmllex_scan_closing
theorem g_xmllex_scan_closing {args : List V} {obs : Obs} (h : (args.length == p_xmllex_scan_closing.np && decide (obs.length ≤ 1000) && (obs.zipIdx.all fun x => x.1.1 == x.2)) = true) : ev' f_xmllex_scan_closing args obs = runK ev' lp' p_xmllex_scan_closing.code ⟨zipEnv 0 args, obs⟩ [] (finK p_xmllex_scan_closing obs.length) := by rw [e_xmllex_scan_closing, enterK h]
theorem pc_xmllex_scan_opening : p_xmllex_scan_opening.code = c_xmllex_scan_opening := rfl
theorem pr_xmllex_scan_opening : p_xmllex_scan_opening.res = [.c 2 (some 5)] := rfl
theorem po_xmllex_scan_opening : p_xmllex_scan_opening.own = [] := rfl
attribute [go_sem] pc_xmllex_scan_opening pr_xmllex_scan_opening po_xmllex_scan_opening
theorem g_xmllex_scan_opening {args : List V} {obs : Obs} (h : (args.length == p_xmllex_scan_opening.np && decide (obs.length ≤ 1000) && (obs.zipIdx.all fun x => x.1.1 == x.2)) = true) : ev' f_xmllex_scan_opening args obs = runK ev' lp' p_xmllex_scan_opening.code ⟨zipEnv 0 args, obs⟩ [] (finK p_xmllex_scan_opening obs.length) := by rw [e_xmllex_scan_opening, enterK h]
theorem pc_xmllex_scan_text : p_xmllex_scan_text.code = c_xmllex_scan_text := rfl
theorem pr_xmllex_scan_text : p_xmllex_scan_text.res = [.c 2 (some 5)] := rfl
theorem po_xmllex_scan_text : p_xmllex_scan_text.own = [] := rfl
attribute [go_sem] pc_xmllex_scan_text pr_xmllex_scan_text po_xmllex_scan_text
theorem g_xmllex_scan_text {args : List V} {obs : Obs} (h : (args.length == p_xmllex_scan_text.np && decide (obs.length ≤ 1000) && (obs.zipIdx.all fun x => x.1.1 == x.2)) = true) : ev' f_xmllex_scan_text args obs = runK ev' lp' p_xmllex_scan_text.code ⟨zipEnv 0 args, obs⟩ [] (finK p_xmllex_scan_text obs.length) := by rw [e_xmllex_scan_text, enterK h]
theorem pc_xmllex_nameOf : p_xmllex_nameOf.code = c_xmllex_nameOf := rfl
theorem pr_xmllex_nameOf : p_xmllex_nameOf.res = [.t 2] := rfl
theorem po_xmllex_nameOf : p_xmllex_nameOf.own = [] := rfl
attribute [go_sem] pc_xmllex_nameOf pr_xmllex_nameOf po_xmllex_nameOf
theorem g_xmllex_nameOf {args : List V} {obs : Obs} (h : (args.length == p_xmllex_nameOf.np && decide (obs.length ≤ 1000) && (obs.zipIdx.all fun x => x.1.1 == x.2)) = true) : ev' f_xmllex_nameOf args obs = runK ev' lp' p_xmllex_nameOf.code ⟨zipEnv 0 args, obs⟩ [] (finK p_xmllex_nameOf obs.length) := by rw [e_xmllex_nameOf, enterK h]
theorem pc_chars_Space : p_chars_Space.code = c_chars_Space := rfl
theorem pr_chars_Space : p_chars_Space.res = [.t 2] := rfl
theorem po_chars_Space : p_chars_Space.own = [] := rfl
attribute [go_sem] pc_chars_Space pr_chars_Space po_chars_Space
theorem g_chars_Space {args : List V} {obs : Obs} (h : (args.length == p_chars_Space.np && decide (obs.length ≤ 1000) && (obs.zipIdx.all fun x => x.1.1 == x.2)) = true) : ev' f_chars_Space args obs = runK ev' lp' p_chars_Space.code ⟨zipEnv 0 args, obs⟩ [] (finK p_chars_Space obs.length) := by rw [e_chars_Space, enterK h]
theorem pc_xmllex_scan_take : p_xmllex_scan_take.code = c_xmllex_scan_take := rfl
theorem pr_xmllex_scan_take : p_xmllex_scan_take.res = [.t 4] := rfl
theorem po_xmllex_scan_take : p_xmllex_scan_take.own = [] := rfl
attribute [go_sem] pc_xmllex_scan_take pr_xmllex_scan_take po_xmllex_scan_take
theorem g_xmllex_scan_take {args : List V} {obs : Obs} (h : (args.length == p_xmllex_scan_take.np && decide (obs.length ≤ 1000) && (obs.zipIdx.all fun x => x.1.1 == x.2)) = true) : ev' f_xmllex_scan_take args obs = runK ev' lp' p_xmllex_scan_take.code ⟨zipEnv 0 args, obs⟩ [] (finK p_xmllex_scan_take obs.length) := by rw [e_xmllex_scan_take, enterK h]
theorem pc_xmllex_lines : p_xmllex_lines.code = c_xmllex_lines := rfl
theorem pr_xmllex_lines : p_xmllex_lines.res = [.t 4] := rfl
theorem po_xmllex_lines : p_xmllex_lines.own = [] := rfl
attribute [go_sem] pc_xmllex_lines pr_xmllex_lines po_xmllex_lines
theorem g_xmllex_lines {args : List V} {obs : Obs} (h : (args.length == p_xmllex_lines.np && decide (obs.length ≤ 1000) && (obs.zipIdx.all fun x => x.1.1 == x.2)) = true) : ev' f_xmllex_lines args obs = runK ev' lp' p_xmllex_lines.code ⟨zipEnv 0 args, obs⟩ [] (finK p_xmllex_lines obs.length) := by rw [e_xmllex_lines, enterK h]
theorem pc_xmllex_scan_name : p_xmllex_scan_name.code = c_xmllex_scan_name := rfl
theorem pr_xmllex_scan_name : p_xmllex_scan_name.res = [.t 2] := rfl
theorem po_xmllex_scan_name : p_xmllex_scan_name.own = [] := rfl
attribute [go_sem] pc_xmllex_scan_name pr_xmllex_scan_name po_xmllex_scan_name
theorem g_xmllex_scan_name {args : List V} {obs : Obs} (h : (args.length == p_xmllex_scan_name.np && decide (obs.length ≤ 1000) && (obs.zipIdx.all fun x => x.1.1 == x.2)) = true) : ev' f_xmllex_scan_name args obs = runK ev' lp' p_xmllex_scan_name.code ⟨zipEnv 0 args, obs⟩ [] (finK p_xmllex_scan_name obs.length) := by rw [e_xmllex_scan_name, enterK h]
theorem pc_xmllex_scan_blanks : p_xmllex_scan_blanks.code = c_xmllex_scan_blanks := rfl
theorem pr_xmllex_scan_blanks : p_xmllex_scan_blanks.res = [.t 2] := rfl
theorem po_xmllex_scan_blanks : p_xmllex_scan_blanks.own = [] := rfl
attribute [go_sem] pc_xmllex_scan_blanks pr_xmllex_scan_blanks po_xmllex_scan_blanks
theorem g_xmllex_scan_blanks {args : List V} {obs : Obs} (h : (args.length == p_xmllex_scan_blanks.np && decide (obs.length ≤ 1000) && (obs.zipIdx.all fun x => x.1.1 == x.2)) = true) : ev' f_xmllex_scan_blanks args obs = runK ev' lp' p_xmllex_scan_blanks.code ⟨zipEnv 0 args, obs⟩ [] (finK p_xmllex_scan_blanks obs.length) := by rw [e_xmllex_scan_blanks, enterK h]
theorem pc_xmllex_scan_attribute : p_xmllex_scan_attribute.code = c_xmllex_scan_attribute := rfl
theorem pr_xmllex_scan_attribute : p_xmllex_scan_attribute.res = [.c 2 (some 2)] := rfl
theorem po_xmllex_scan_attribute : p_xmllex_scan_attribute.own = [] := rfl
attribute [go_sem] pc_xmllex_scan_attribute pr_xmllex_scan_attribute po_xmllex_scan_attribute
theorem g_xmllex_scan_attribute {args : List V} {obs : Obs} (h : (args.length == p_xmllex_scan_attribute.np && decide (obs.length ≤ 1000) && (obs.zipIdx.all fun x => x.1.1 == x.2)) = true) : ev' f_xmllex_scan_attribute args obs = runK ev' lp' p_xmllex_scan_attribute.code ⟨zipEnv 0 args, obs⟩ [] (finK p_xmllex_scan_attribute obs.length) := by rw [e_xmllex_scan_attribute, enterK h]
theorem pc_xmllex_resolve : p_xmllex_resolve.code = c_xmllex_resolve := rfl
theorem pr_xmllex_resolve : p_xmllex_resolve.res = [.t 4, .t 5, .t 6] := rfl
theorem po_xmllex_resolve : p_xmllex_resolve.own = [] := rfl
attribute [go_sem] pc_xmllex_resolve pr_xmllex_resolve po_xmllex_resolve
theorem g_xmllex_resolve {args : List V} {obs : Obs} (h : (args.length == p_xmllex_resolve.np && decide (obs.length ≤ 1000) && (obs.zipIdx.all fun x => x.1.1 == x.2)) = true) : ev' f_xmllex_resolve args obs = runK ev' lp' p_xmllex_resolve.code ⟨zipEnv 0 args, obs⟩ [] (finK p_xmllex_resolve obs.length) := by rw [e_xmllex_resolve, enterK h]
theorem pc_chars_Decode : p_chars_Decode.code = c_chars_Decode := rfl
theorem pr_chars_Decode : p_chars_Decode.res = [.t 2, .t 3] := rfl
theorem po_chars_Decode : p_chars_Decode.own = [] := rfl
attribute [go_sem] pc_chars_Decode pr_chars_Decode po_chars_Decode
theorem g_chars_Decode {args : List V} {obs : Obs} (h : (args.length == p_chars_Decode.np && decide (obs.length ≤ 1000) && (obs.zipIdx.all fun x => x.1.1 == x.2)) = true) : ev' f_chars_Decode args obs = runK ev' lp' p_chars_Decode.code ⟨zipEnv 0 args, obs⟩ [] (finK p_chars_Decode obs.length) := by rw [e_chars_Decode, enterK h]
theorem pc_chars_First : p_chars_First.code = c_chars_First := rfl
theorem pr_chars_First : p_chars_First.res = [.t 2] := rfl
theorem po_chars_First : p_chars_First.own = [] := rfl
attribute [go_sem] pc_chars_First pr_chars_First po_chars_First
theorem g_chars_First {args : List V} {obs : Obs} (h : (args.length == p_chars_First.np && decide (obs.length ≤ 1000) && (obs.zipIdx.all fun x => x.1.1 == x.2)) = true) : ev' f_chars_First args obs = runK ev' lp' p_chars_First.code ⟨zipEnv 0 args, obs⟩ [] (finK p_chars_First obs.length) := by rw [e_chars_First, enterK h]
theorem pc_chars_Later : p_chars_Later.code = c_chars_Later := rfl
theorem pr_chars_Later : p_chars_Later.res = [.t 2] := rfl
theorem po_chars_Later : p_chars_Later.own = [] := rfl
attribute [go_sem] pc_chars_Later pr_chars_Later po_chars_Later
theorem g_chars_Later {args : List V} {obs : Obs} (h : (args.length == p_chars_Later.np && decide (obs.length ≤ 1000) && (obs.zipIdx.all fun x => x.1.1 == x.2)) = true) : ev' f_chars_Later args obs = runK ev' lp' p_chars_Later.code ⟨zipEnv 0 args, obs⟩ [] (finK p_chars_Later obs.length) := by rw [e_chars_Later, enterK h]
theorem pc_xmllex_fullName : p_xmllex_fullName.code = c_xmllex_fullName := rfl
theorem pr_xmllex_fullName : p_xmllex_fullName.res = [.t 2] := rfl
theorem po_xmllex_fullName : p_xmllex_fullName.own = [] := rfl
attribute [go_sem] pc_xmllex_fullName pr_xmllex_fullName po_xmllex_fullName
theorem g_xmllex_fullName {args : List V} {obs : Obs} (h : (args.length == p_xmllex_fullName.np && decide (obs.length ≤ 1000) && (obs.zipIdx.all fun x => x.1.1 == x.2)) = true) : ev' f_xmllex_fullName args obs = runK ev' lp' p_xmllex_fullName.code ⟨zipEnv 0 args, obs⟩ [] (finK p_xmllex_fullName obs.length) := by rw [e_xmllex_fullName, enterK h]
theorem pc_xmllex_trimmed : p_xmllex_trimmed.code = c_xmllex_trimmed := rfl
theorem pr_xmllex_trimmed : p_xmllex_trimmed.res = [.t 2] := rfl
theorem po_xmllex_trimmed : p_xmllex_trimmed.own = [] := rfl
attribute [go_sem] pc_xmllex_trimmed pr_xmllex_trimmed po_xmllex_trimmed
theorem g_xmllex_trimmed {args : List V} {obs : Obs} (h : (args.length == p_xmllex_trimmed.np && decide (obs.length ≤ 1000) && (obs.zipIdx.all fun x => x.1.1 == x.2)) = true) : ev' f_xmllex_trimmed args obs = runK ev' lp' p_xmllex_trimmed.code ⟨zipEnv 0 args, obs⟩ [] (finK p_xmllex_trimmed obs.length) := by rw [e_xmllex_trimmed, enterK h]
theorem pc_xmllex_scan_value : p_xmllex_scan_value.code = c_xmllex_scan_value := rfl
theorem pr_xmllex_scan_value : p_xmllex_scan_value.res = [.t 2, .t 3] := rfl
theorem po_xmllex_scan_value : p_xmllex_scan_value.own = [] := rfl
attribute [go_sem] pc_xmllex_scan_value pr_xmllex_scan_value po_xmllex_scan_value
theorem g_xmllex_scan_value {args : List V} {obs : Obs} (h : (args.length == p_xmllex_scan_value.np && decide (obs.length ≤ 1000) && (obs.zipIdx.all fun x => x.1.1 == x.2)) = true) : ev' f_xmllex_scan_value args obs = runK ev' lp' p_xmllex_scan_value.code ⟨zipEnv 0 args, obs⟩ [] (finK p_xmllex_scan_value obs.length) := by rw [e_xmllex_scan_value, enterK h]
theorem pc_xmllex_named : p_xmllex_named.code = c_xmllex_named := rfl
theorem pr_xmllex_named : p_xmllex_named.res = [.t 2, .t 3] := rfl
theorem po_xmllex_named : p_xmllex_named.own = [] := rfl
attribute [go_sem] pc_xmllex_named pr_xmllex_named po_xmllex_named
theorem g_xmllex_named {args : List V} {obs : Obs} (h : (args.length == p_xmllex_named.np && decide (obs.length ≤ 1000) && (obs.zipIdx.all fun x => x.1.1 == x.2)) = true) : ev' f_xmllex_named args obs = runK ev' lp' p_xmllex_named.code ⟨zipEnv 0 args, obs⟩ [] (finK p_xmllex_named obs.length) := by rw [e_xmllex_named, enterK h]
theorem pc_chars_Encode : p_chars_Encode.code = c_chars_Encode := rfl
theorem pr_chars_Encode : p_chars_Encode.res = [.t 2] := rfl
theorem po_chars_Encode : p_chars_Encode.own = [] := rfl
attribute [go_sem] pc_chars_Encode pr_chars_Encode po_chars_Encode
theorem g_chars_Encode {args : List V} {obs : Obs} (h : (args.length == p_chars_Encode.np && decide (obs.length ≤ 1000) && (obs.zipIdx.all fun x => x.1.1 == x.2)) = true) : ev' f_chars_Encode args obs = runK ev' lp' p_chars_Encode.code ⟨zipEnv 0 args, obs⟩ [] (finK p_chars_Encode obs.length) := by rw [e_chars_Encode, enterK h]
theorem pc_chars_in : p_chars_in.code = c_chars_in := rfl
theorem pr_chars_in : p_chars_in.res = [.t 4] := rfl
theorem po_chars_in : p_chars_in.own = [] := rfl
attribute [go_sem] pc_chars_in pr_chars_in po_chars_in
theorem g_chars_in {args : List V} {obs : Obs} (h : (args.length == p_chars_in.np && decide (obs.length ≤ 1000) && (obs.zipIdx.all fun x => x.1.1 == x.2)) = true) : ev' f_chars_in args obs = runK ev' lp' p_chars_in.code ⟨zipEnv 0 args, obs⟩ [] (finK p_chars_in obs.length) := by rw [e_chars_in, enterK h]
theorem pc_xmllex_numeral : p_xmllex_numeral.code = c_xmllex_numeral := rfl
theorem pr_xmllex_numeral : p_xmllex_numeral.res = [.t 4, .t 5] := rfl
theorem po_xmllex_numeral : p_xmllex_numeral.own = [] := rfl
attribute [go_sem] pc_xmllex_numeral pr_xmllex_numeral po_xmllex_numeral
theorem g_xmllex_numeral {args : List V} {obs : Obs} (h : (args.length == p_xmllex_numeral.np && decide (obs.length ≤ 1000) && (obs.zipIdx.all fun x => x.1.1 == x.2)) = true) : ev' f_xmllex_numeral args obs = runK ev' lp' p_xmllex_numeral.code ⟨zipEnv 0 args, obs⟩ [] (finK p_xmllex_numeral obs.length) := by rw [e_xmllex_numeral, enterK h]
theorem pc_chars_Wrong : p_chars_Wrong.code = c_chars_Wrong := rfl
theorem pr_chars_Wrong : p_chars_Wrong.res = [.t 2] := rfl
theorem po_chars_Wrong : p_chars_Wrong.own = [] := rfl
attribute [go_sem] pc_chars_Wrong pr_chars_Wrong po_chars_Wrong
theorem g_chars_Wrong {args : List V} {obs : Obs} (h : (args.length == p_chars_Wrong.np && decide (obs.length ≤ 1000) && (obs.zipIdx.all fun x => x.1.1 == x.2)) = true) : ev' f_chars_Wrong args obs = runK ev' lp' p_chars_Wrong.code ⟨zipEnv 0 args, obs⟩ [] (finK p_chars_Wrong obs.length) := by rw [e_chars_Wrong, enterK h]
theorem pc_chars_ofXML : p_chars_ofXML.code = c_chars_ofXML := rfl
theorem pr_chars_ofXML : p_chars_ofXML.res = [.t 2] := rfl
theorem po_chars_ofXML : p_chars_ofXML.own = [] := rfl
attribute [go_sem] pc_chars_ofXML pr_chars_ofXML po_chars_ofXML
theorem g_chars_ofXML {args : List V} {obs : Obs} (h : (args.length == p_chars_ofXML.np && decide (obs.length ≤ 1000) && (obs.zipIdx.all fun x => x.1.1 == x.2)) = true) : ev' f_chars_ofXML args obs = runK ev' lp' p_chars_ofXML.code ⟨zipEnv 0 args, obs⟩ [] (finK p_chars_ofXML obs.length) := by rw [e_chars_ofXML, enterK h]
attribute [go_sem] rk_xmllex_Skip_0 rk_xmllex_scan_opening_0 rk_xmllex_nameOf_0 rk_xmllex_resolve_0 rk_xmllex_scan_value_0 rk_chars_in_0 rk_xmllex_numeral_0 rk_chars_Wrong_0
end Go.Proofs.Av
