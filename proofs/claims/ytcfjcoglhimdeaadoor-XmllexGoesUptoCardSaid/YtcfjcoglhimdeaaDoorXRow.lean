/- PROVED: 'XmllexGoesUptoCardSaid': 'dossierlaw05.XmllexGoes' answers true at every []byte and every int, and the []byte reads afterwards as it read before. CONDITIONS: what is read is of bulk at most 1048576; the row's listed variables (utf8.acceptRanges, bytes.ErrTooLarge, utf8.first) hold what the program's text lays. -/
import Derived.Test.YtcfjcoglhimdeaaDoorXSound3
import Derived.Test.YtcfjcoglhimdeaaDoorXGoes
import Derived.Test.YtcfjcoglhimdeaaDoorAvChk
import Derived.Test.YtcfjcoglhimdeaaDoorCards
import Derived.Test.YtcfjcoglhimdeaaDoorTie
import Derived.ProofKit
import Derived.SizedLaws
import Derived.OpenShut
import Derived.Deep.DeepHandedRow
import Derived.Deep.DeepWitnessRowRef
import Derived.Lib.LaidU8T
import Derived.Shelf.Vars
import Derived.MakeChecks
set_option linter.unusedSimpArgs false
set_option linter.unusedVariables false
namespace Go.Proofs.YtcfjcoglhimdeaaDoor.XGoes
open Go.ChangeShapes Go.WideShapes Go.ChangeAt Go.RowKit Go.Proofs.Av
set_option maxRecDepth 100000
theorem tab_ok : TabOk Tryd.prog tab := by
  intro k pf h
  unfold tab at h
  obtain ⟨x, hx, rfl⟩ := Option.map_eq_some_iff.1 h
  have hmem := List.mem_of_find?_eq_some hx
  have hk := List.find?_some hx
  simp only [beq_iff_eq] at hk
  subst hk
  simp only [tabL, List.mem_cons, List.not_mem_nil, or_false] at hmem
  rcases hmem with rfl | rfl | rfl | rfl | rfl | rfl | rfl | rfl | rfl | rfl | rfl | rfl | rfl | rfl | rfl | rfl | rfl | rfl | rfl | rfl | rfl | rfl | rfl | rfl | rfl | rfl | rfl | rfl | rfl | rfl | rfl | rfl
  · exact k_dossierlaw05_XmllexGoes
  · exact k_xmllex_Next
  · exact k_dossierlaw05_awake
  · exact k_xmllex_Skip
  · exact k_xmllex_scan_token
  · exact k_xmllex_comment
  · exact k_xmllex_instruction
  · exact k_xmllex_scan_token_1
  · exact k_xmllex_scan_literal
  · exact k_xmllex_scan_closing
  · exact k_xmllex_scan_opening
  · exact k_xmllex_scan_text
  · exact k_xmllex_nameOf
  · exact k_chars_Space
  · exact k_xmllex_scan_take
  · exact k_xmllex_lines
  · exact k_xmllex_scan_name
  · exact k_xmllex_scan_blanks
  · exact k_xmllex_scan_attribute
  · exact k_xmllex_resolve
  · exact k_chars_Decode
  · exact k_chars_First
  · exact k_chars_Later
  · exact k_xmllex_fullName
  · exact k_xmllex_trimmed
  · exact k_xmllex_scan_value
  · exact k_xmllex_named
  · exact k_chars_Encode
  · exact k_chars_in
  · exact k_xmllex_numeral
  · exact k_chars_Wrong
  · exact k_chars_ofXML
/-- The evaluator tells what the code does. -/
theorem goes_sound (z : Bool) (b : List UInt8) (n : Int) (hb : b.length ≤ 1048576) : Sound Tryd.prog GI 3 [.im (.by_ z b), .im (.i .i64 n)] [] (.ret [.im (.b true)] []) :=
  evL_ok tab lib tab_ok lib_ok _ _ _ _ (by
    have h := ev_Goes z b n hb
    unfold ev' at h
    exact h)
theorem calls_of {P : Program} {k : FuncId} {us : Array Value} {w : World} {R : Ending → World → Prop} (hb : okBody P k = true) (h : CallsTo P k us w R) : Calls P k us w R := by
  unfold okBody at hb
  split at hb
  · rename_i fn hf
    simp only [Bool.and_eq_true, Bool.not_eq_true'] at hb
    obtain ⟨h1, h2⟩ := hb
    obtain ⟨c, hc⟩ := Option.isSome_iff_exists.1 h1
    have hne : ¬ (fn.name = "runtime.NumGoroutine") := by simpa using h2
    have hcall : (callFunc k us).run P w = .ok (.enter k us) w := by simp [callFunc, hf, hc, hne, go_sem]
    unfold CallsTo at h
    rw [hcall] at h
    exact h
  · cases hb
def ren : Go.Shelf.Ren := ⟨fun n => n, fun | 119 => 101 | 139 => 104 | 138 => 103 | n => n, fun | 3 => 2 | 4 => 3 | n => n⟩
theorem types : U8Types Tryd.prog ren := ⟨Tryd.underlying5, Tryd.underlying101, Tryd.underlying103, Tryd.underlying104⟩
theorem extra : U8Extra Tryd.prog ren := ⟨by kernel_rfl, by kernel_rfl, by kernel_rfl, by kernel_rfl, by kernel_rfl, by kernel_rfl, by kernel_rfl⟩
theorem first_eq : Rows.laid_unicode_utf8_first = Lib.firstData := by kernel_rfl
theorem accept_eq : (Rows.laid_unicode_utf8_acceptRanges : DataW Unit) = Lib.acceptData := by kernel_rfl
theorem own : ownKnob Tryd.prog.godebug = none := by kernel_rfl
theorem laidOut : laidOutB Tryd.prog = true := by kernel_rfl
theorem cells5 : Tryd.prog.cellsOf 5 = 1 := by kernel_rfl
theorem maxCell {W : World} (h : W.ShapedOpen Tryd.prog) : ∃ m, W.cell? ⟨0, 0, none⟩ = some (.int .i64 m) :=
  Go.Proofs.cell_of_shapedOpen_int (zero := #[.int .i64 0]) (t := 3) h (of_decide_eq_true (by kernel_rfl)) (by kernel_rfl) rfl (by kernel_rfl) (by kernel_rfl) Tryd.underlying3
theorem tabs {W : World} (h : laidMetH Tryd.prog Rows.xmllexGoesUptoRow.laid W) : Lib.Utf8Tabs 2 3 W := by
  have h' : laidMet Tryd.prog Rows.xmllexGoesUptoRow.laid W := by
    rw [← Go.MakeChecks.laidMetH_plain _ _ _ (by kernel_rfl)]
    exact h
  have e1 : Lib.VarReads Tryd.prog W "unicode/utf8.first" Rows.laid_unicode_utf8_first := Lib.laidMet.reads h' (.tail _ (.tail _ (.head _)))
  have e2 : Lib.VarReads Tryd.prog W "unicode/utf8.acceptRanges" Rows.laid_unicode_utf8_acceptRanges := Lib.laidMet.reads h' (.head _)
  rw [first_eq] at e1
  rw [accept_eq] at e2
  exact utf8Tabs_of_readsT types extra e1 e2
theorem glob {W : World} (h1 : W.ShapedOpen Tryd.prog) (h2 : laidMetH Tryd.prog Rows.xmllexGoesUptoRow.laid W) (nt : Nat) (g0 : Nat → Value) : Glob ⟨Tryd.prog, nt, W, fun _ => True, fun _ => False, g0⟩ GI := by
  intro w hf
  obtain ⟨m, hm⟩ := maxCell h1
  have ht := tabs h2
  have hc : ∀ (ad : Addr) v, W.cell? ad = some v → w.cell? ad = some v := fun ad v hv => (World.cell?_of_block (hf.block _ (World.block_lt_of_cell? W _ hv) (fun h => h))).trans hv
  exact ⟨⟨m, hc _ _ hm⟩, fun c hc' => hc _ _ (ht.1 c hc'), fun i hi => ⟨hc _ _ (ht.2 i hi).1, hc _ _ (ht.2 i hi).2⟩⟩
theorem bulk_lits {H : Type} (k : IntKind) : ∀ zs : List Int, Rows.uptoBulkAll (lits k zs : List (DataW H)) = zs.length
  | [] => rfl
  | z :: r => by
    have := bulk_lits (H := H) k r
    simp only [lits, List.map_cons, Rows.uptoBulkAll, Rows.uptoBulk, List.length_cons] at this ⊢
    omega
/-- A []byte that came in, as the evaluator takes it. -/
theorem open_bytes {H : Type} {enc : TypeId × Value → H} {W : World} {a0 : Option Addr} {len cap fuel : Nat} {x : DataW H × List MemPlace} {A : Nat → Prop} {g : Nat → Value} (hA : ∀ b, A b)
    (hf : DataW.trod enc Tryd.prog W 0 (fun _ => true) true fuel 22 [.slice a0 len cap] = some x) (hcond : Rows.uptoBulk x.1 ≤ 1048576) :
    ∃ z l, l.length ≤ 1048576 ∧ RV Tryd.prog W A g (.im (.by_ z l)) (.slice a0 len cap) := by
  rcases open_ints Tryd.underlying22 Tryd.underlying5 cells5 hf with ⟨e, rfl⟩ | ⟨a, len', cap', zs, e, _, h1, h2, h3, rfl, h5, h6⟩
  · simp only [List.cons.injEq, and_true, Value.slice.injEq] at e
    obtain ⟨rfl, rfl, rfl⟩ := e
    exact ⟨true, [], by simp, mk_by rfl (Nat.le_refl _) (by simp) ⟨fun _ => ⟨rfl, rfl⟩, fun _ => rfl⟩ (.inl rfl)⟩
  · simp only [List.cons.injEq, and_true, Value.slice.injEq] at e
    obtain ⟨rfl, rfl, rfl⟩ := e
    simp only [if_true] at h3
    have hlen : (zs.take len).length = len := by rw [List.length_take]; omega
    simp only [Rows.uptoBulk, bulk_lits] at hcond
    refine ⟨false, (zs.take len).map fun n => UInt8.ofNat n.toNat, by rw [List.length_map]; omega, mk_by (by rw [List.length_map, hlen]) (by rw [List.length_map, hlen]; exact h1) h2 ⟨fun e => (by cases e), fun e => (by cases e)⟩ (.inr ⟨a, rfl, hA _, fun j u hj => ?_⟩)⟩
    rw [List.getElem?_map, List.getElem?_map, List.getElem?_take] at hj
    split at hj
    · rename_i hlt
      have hjz : j < zs.length := by omega
      rw [List.getElem?_eq_getElem hjz] at hj
      simp only [Option.map_some, Option.some.injEq] at hj
      subst hj
      rw [h5 j hjz]
      have hw := h6 zs[j] (List.getElem_mem _)
      simp only [Lit.wf, IntKind.min, IntKind.max, IntKind.signed, IntKind.bits, Bool.and_eq_true, decide_eq_true_eq] at hw
      have hz : zs.getD j 0 = zs[j] := by simp [List.getD, hjz]
      rw [hz]
      unfold byteV
      congr 2
      rw [UInt8.toNat_ofNat']
      simp at hw
      omega
    · cases hj
noncomputable def laidWorld (os : Os) : World :=
  let N := (World.settled Tryd.prog os).heap.size
  let w0 := World.holding Tryd.prog os ⟨#[.cells #[.string ⟨#[98, 121, 116, 101, 115, 46, 66, 117, 102, 102, 101, 114, 58, 32, 116, 111, 111, 32, 108, 97, 114, 103, 101]⟩] 124], #[], []⟩
  let put (h : Array Obj) (g : Nat) (cs : Array Value) : Array Obj := h.modify g fun
    | .cells _ t frozen => .cells cs t frozen
    | o => o
  let h1 := put w0.heap 2 (Lib.firstTab.map fun z => Value.int .u8 z).toArray
  let h2 := put h1 3 ((List.range 16).flatMap fun i => [Value.int .u8 (Lib.accLo i), Value.int .u8 (Lib.accHi i)]).toArray
  let h3 := put h2 1 #[.iface 109 (.pointer (some ⟨N, 0, none⟩))]
  { w0 with heap := h3 }
theorem laid_met (os : Os) (args : Array Value) : laidMet Tryd.prog Rows.xmllexGoesUptoRow.laid ((laidWorld os).forCall (fun _ _ => 0) ⟨#[], args, []⟩).memory :=
  laidMet_of_run' 10 (by kernel_rfl) (by kernel_rfl)
theorem reads (os : Os) {H : Type} (enc : TypeId × Value → H) : ∃ places, DataW.whole enc Tryd.prog ((laidWorld os).forCall (fun _ _ => 0) ⟨#[], #[.slice none 0 0, .int .i64 0], []⟩).memory Tryd.f3.params.toList Rows.xmllexGoesSpec.vars false #[Value.slice none 0 0, Value.int .i64 0].toList 8 = some ([.nil, .lit (.int .i64 0)], [], places) :=
  ⟨[], by kernel_rfl⟩
theorem lifted (os : Os) (started : os.Started) (H : Type) (enc : TypeId × Value → H) (F : Stop.Interp) :
    ReturnsInHanded {} Tryd.checked os 3 .any ((Rows.OpenSpec.upto Rows.xmllexGoesSpec).preRow enc Tryd.prog Tryd.f3 Rows.xmllexGoesUptoRow.domain false Rows.xmllexGoesUptoRow.laid) (((Rows.OpenSpec.upto Rows.xmllexGoesSpec).at F).post enc Tryd.prog Tryd.f3 false true false false) := by
  obtain ⟨places, hx⟩ := reads os enc
  refine returnsInHanded_of_row (C := Tryd.checked) (s := Rows.OpenSpec.upto Rows.xmllexGoesSpec) own started (by kernel_rfl) Tryd.func3
    (witness_row_atRef (enc := enc) (C := Tryd.checked) false (laidWorld os) #[.slice none 0 0, .int .i64 0] rfl (by kernel_rfl) (by kernel_rfl) (by kernel_rfl)
      (OpenSpec.preRow_of_cond 8 hx (by kernel_rfl) (fun k hk => by cases hk; kernel_rfl) (by kernel_rfl) (laid_met os _))) ?_
  intro W base args ds gs before hval hW _ hcond0 _ hL hsh _
  have hcond : Rows.uptoSmall H (ds ++ gs) = true := hcond0 _ rfl
  have hW' := hW
  obtain ⟨p, q, hA0, hV, rfl, _, _⟩ := hW
  have hA : DataW.TrodAll enc Tryd.prog W 0 (fun _ => true) true Tryd.f3.params.toList args.toList ds p := hA0
  rw [Tryd.params3] at hA hval
  obtain ⟨v0, v1, d0, d1, p0, p1, rfl, rfl, rfl, h0, h1⟩ := trodAll_two hA
  obtain ⟨rfl, rfl⟩ := trodVars_none hV
  obtain ⟨a0, len, cap, rfl⟩ := okWide_slice Tryd.underlying22 (hval 0 22 v0 rfl rfl)
  have h0k := h0
  have h1k := h1
  obtain ⟨n, rfl, rfl, rfl, hwf⟩ := open_int Tryd.underlying3 (hval 1 3 v1 rfl rfl) h1
  obtain ⟨fuel0, hf0⟩ := h0
  clear hA0
  simp only [List.append_nil] at hW' hcond
  have hlt : ∀ x ∈ p0, x.block < W.heap.size := fun x hx => by simpa using hW'.lt x (by simpa using hx)
  have hb0 : Rows.uptoBulk d0 ≤ 1048576 := by
    have h := of_decide_eq_true hcond
    simp only [Rows.uptoBulkAll] at h
    omega
  obtain ⟨z, l, hl, hrv⟩ := open_bytes (A := (⟨Tryd.prog, 0, W, fun _ => True, fun _ => False, fun _ => .nilFunc⟩ : Ctx).Al [] (fun _ => .nilFunc)) (g := fun _ => .nilFunc) (fun b => ⟨.inl trivial, by rintro ⟨o, x, hx, _⟩; cases hx⟩) hf0 hb0
  have hint : RV Tryd.prog W ((⟨Tryd.prog, 0, W, fun _ => True, fun _ => False, fun _ => .nilFunc⟩ : Ctx).Al [] (fun _ => .nilFunc)) (fun _ => .nilFunc) (.im (.i .i64 n)) (.int .i64 n) := by
    simp only [Lit.wf, Bool.and_eq_true, decide_eq_true_eq] at hwf
    exact mk_i hwf.1 hwf.2
  have hs := goes_sound z l n hl ⟨Tryd.prog, 0, W, fun _ => True, fun _ => False, fun _ => .nilFunc⟩ #[.slice a0 len cap, .int .i64 n] rfl (glob hsh hL _ _)
    ⟨fun o x hx => (by cases hx), fun o o' x x' b hx => (by cases hx), fun o x b hx => (by cases hx), Fr.refl _ _⟩ ⟨_, _, rfl, hrv, _, _, rfl, hint, rfl⟩
  refine (calls_of (by kernel_rfl) hs).mono ?_
  rintro e W' ⟨g, -, hh, u, rfl, hu⟩
  have hu : u = .bool true := by simpa [retV, RV, R] using hu
  subst hu
  have bel : Below W.heap.size W W' := ⟨hh.frame.os, hh.frame.tape, hh.frame.output, hh.frame.size, fun k hk => hh.frame.block k hk (fun h => h)⟩
  have e1 : (((Rows.OpenSpec.upto Rows.xmllexGoesSpec).at F).fn H ([d0, .lit (.int .i64 n)] ++ [])) = { results := [.lit (.bool true)], args := [d0, .lit (.int .i64 n)] } := rfl
  refine ⟨_, rfl, _, _, _, [], p0 ++ [], [], hW', ?_, ?_, ?_, bel.frame _, fun h => by cases h⟩
  · rw [e1]; exact trodAll_mk1 (shut_bool Tryd.underlying4 _)
  · rw [e1]; exact trodAll_mk2 (Below.trod laidOut (by kernel_rfl) (of_decide_eq_true (by kernel_rfl)) h0k bel hlt) (shut_int Tryd.underlying3 hwf)
  · rw [e1]; rfl
theorem said : Rows.XmllexGoesUptoSaid :=
  OpenClaim.holds_of_cond 3 Tryd.f3 rfl rfl rfl rfl rfl rfl rfl ⟨rfl, rfl, rfl, rfl, rfl⟩ rfl rfl rfl rfl rfl (by kernel_rfl) Tryd.func3 (by kernel_rfl)
    (of_decide_eq_true (by kernel_rfl)) (by unfold Func.isWrapper; first | (rw [if_pos (by decide +kernel)]; kernel_rfl) | (rw [if_neg (by decide +kernel)]; exact ⟨rfl, rfl⟩))
    (fun os started H enc _ F => by rw [OpenClaim.pre_eq_preRow]; exact lifted os started H enc F)
theorem plain (f : FuncId) (fn : Func) (hf : Tryd.pinned.checked.prog.funcNamed "dossier/dossierlaw05.XmllexGoes" = some f) (hfn : Tryd.pinned.checked.prog.funcs[f]? = some fn) :
    false = Tryd.pinned.checked.prog.looks [] ∧ ∀ (j : Nat) t, fn.params[j]? = some t → Tryd.pinned.checked.prog.wantsStandIn t = false := by
  obtain rfl : f = 3 := Option.some.inj ((show Tryd.prog.funcNamed "dossier/dossierlaw05.XmllexGoes" = some 3 by kernel_rfl).symm.trans hf) |>.symm
  obtain rfl : fn = Tryd.f3 := (Option.some.inj (Tryd.func3.symm.trans hfn)).symm
  refine ⟨by kernel_rfl, fun j t ht => ?_⟩
  rw [Tryd.params3] at ht
  have : t = 22 ∨ t = 3 := by simpa using Array.mem_of_getElem? ht
  rcases this with rfl | rfl
  · exact (show Tryd.prog.wantsStandIn 22 = false by kernel_rfl)
  · exact (show Tryd.prog.wantsStandIn 3 = false by kernel_rfl)
end Go.Proofs.YtcfjcoglhimdeaaDoor.XGoes
namespace Go.Proofs.YtcfjcoglhimdeaaDoor
theorem xmllexGoesUpto_card : Rows.XmllexGoesUptoCardSaid :=
  Claim7.holds_tied_plain_at .later [] _ _ _ _ XGoes.said (fun _ h => by cases h) (by kernel_rfl) (fun _ h => by cases h) xmllexGoesUpto_row_tie rfl ⟨rfl, rfl⟩ (by kernel_rfl) rfl XGoes.plain (by kernel_rfl)
end Go.Proofs.YtcfjcoglhimdeaaDoor
