/- The small code is the loaded functions'. -/
import Derived.Test.YtcfjcoglhimdeaaDoorProg
import Derived.Test.YtcfjcoglhimdeaaDoorAvGen
set_option linter.unusedSimpArgs false
set_option linter.unusedVariables false
namespace Go.Proofs.Av
set_option maxRecDepth 100000
theorem k_dossierlaw05_XmllexGoes : chkF Tryd.prog f_dossierlaw05_XmllexGoes p_dossierlaw05_XmllexGoes = true := by kernel_rfl
theorem k_xmllex_Next : chkF Tryd.prog f_xmllex_Next p_xmllex_Next = true := by kernel_rfl
theorem k_dossierlaw05_awake : chkF Tryd.prog f_dossierlaw05_awake p_dossierlaw05_awake = true := by kernel_rfl
theorem k_xmllex_Skip : chkF Tryd.prog f_xmllex_Skip p_xmllex_Skip = true := by kernel_rfl
theorem k_xmllex_scan_token : chkF Tryd.prog f_xmllex_scan_token p_xmllex_scan_token = true := by kernel_rfl
theorem k_xmllex_comment : chkF Tryd.prog f_xmllex_comment p_xmllex_comment = true := by kernel_rfl
theorem k_xmllex_instruction : chkF Tryd.prog f_xmllex_instruction p_xmllex_instruction = true := by kernel_rfl
theorem k_xmllex_scan_token_1 : chkF Tryd.prog f_xmllex_scan_token_1 p_xmllex_scan_token_1 = true := by kernel_rfl
theorem k_xmllex_scan_literal : chkF Tryd.prog f_xmllex_scan_literal p_xmllex_scan_literal = true := by kernel_rfl
theorem k_xmllex_scan_closing : chkF Tryd.prog f_xmllex_scan_closing p_xmllex_scan_closing = true := by kernel_rfl
theorem k_xmllex_scan_opening : chkF Tryd.prog f_xmllex_scan_opening p_xmllex_scan_opening = true := by kernel_rfl
theorem k_xmllex_scan_text : chkF Tryd.prog f_xmllex_scan_text p_xmllex_scan_text = true := by kernel_rfl
theorem k_xmllex_nameOf : chkF Tryd.prog f_xmllex_nameOf p_xmllex_nameOf = true := by kernel_rfl
theorem k_chars_Space : chkF Tryd.prog f_chars_Space p_chars_Space = true := by kernel_rfl
theorem k_xmllex_scan_take : chkF Tryd.prog f_xmllex_scan_take p_xmllex_scan_take = true := by kernel_rfl
theorem k_xmllex_lines : chkF Tryd.prog f_xmllex_lines p_xmllex_lines = true := by kernel_rfl
theorem k_xmllex_scan_name : chkF Tryd.prog f_xmllex_scan_name p_xmllex_scan_name = true := by kernel_rfl
theorem k_xmllex_scan_blanks : chkF Tryd.prog f_xmllex_scan_blanks p_xmllex_scan_blanks = true := by kernel_rfl
theorem k_xmllex_scan_attribute : chkF Tryd.prog f_xmllex_scan_attribute p_xmllex_scan_attribute = true := by kernel_rfl
theorem k_xmllex_resolve : chkF Tryd.prog f_xmllex_resolve p_xmllex_resolve = true := by kernel_rfl
theorem k_chars_Decode : chkF Tryd.prog f_chars_Decode p_chars_Decode = true := by kernel_rfl
theorem k_chars_First : chkF Tryd.prog f_chars_First p_chars_First = true := by kernel_rfl
theorem k_chars_Later : chkF Tryd.prog f_chars_Later p_chars_Later = true := by kernel_rfl
theorem k_xmllex_fullName : chkF Tryd.prog f_xmllex_fullName p_xmllex_fullName = true := by kernel_rfl
theorem k_xmllex_trimmed : chkF Tryd.prog f_xmllex_trimmed p_xmllex_trimmed = true := by kernel_rfl
theorem k_xmllex_scan_value : chkF Tryd.prog f_xmllex_scan_value p_xmllex_scan_value = true := by kernel_rfl
theorem k_xmllex_named : chkF Tryd.prog f_xmllex_named p_xmllex_named = true := by kernel_rfl
theorem k_chars_Encode : chkF Tryd.prog f_chars_Encode p_chars_Encode = true := by kernel_rfl
theorem k_chars_in : chkF Tryd.prog f_chars_in p_chars_in = true := by kernel_rfl
theorem k_xmllex_numeral : chkF Tryd.prog f_xmllex_numeral p_xmllex_numeral = true := by kernel_rfl
theorem k_chars_Wrong : chkF Tryd.prog f_chars_Wrong p_chars_Wrong = true := by kernel_rfl
theorem k_chars_ofXML : chkF Tryd.prog f_chars_ofXML p_chars_ofXML = true := by kernel_rfl
end Go.Proofs.Av
