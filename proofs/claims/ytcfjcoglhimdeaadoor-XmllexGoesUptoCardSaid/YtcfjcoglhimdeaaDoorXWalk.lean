/- THE WALKS OF GO'S LIBRARY THAT THE SHELF HASN'T: (DecodeRune's after the shelf's own walk at nil). -/
import Derived.Test.YtcfjcoglhimdeaaDoorXShelf
import Derived.Shelf.Spec.NilArms
set_option linter.unusedSimpArgs false
set_option linter.unusedVariables false
namespace Go.Proofs
open Go.Shelf Go.RowKit
variable {P : Program} {ρ : Ren}
set_option maxHeartbeats 1000000 in
set_option maxRecDepth 1000000 in
theorem Any7.utf8_decodeRuneSlow_empty (L : Lays7.n49 P ρ) (p : Option Addr) (c : Nat) (w : World) :
    Calls P (ρ.f 49) #[.slice p 0 c] w fun e w' => e = .returned (.tuple #[.int .i32 65533, .int .i64 0]) ∧ w' = w := by
  have t0 := L.t0; have a0 := L.a0; have z0 := L.z0; have v0 := L.v0; have t3 := L.t3; have a3 := L.a3; have z3 := L.z3; have v3 := L.v3; have t4 := L.t4; have a4 := L.a4; have z4 := L.z4; have v4 := L.v4; have t5 := L.t5; have a5 := L.a5; have z5 := L.z5; have v5 := L.v5; have t21 := L.t21; have a21 := L.a21; have z21 := L.z21; have v21 := L.v21; have t25 := L.t25; have a25 := L.a25; have z25 := L.z25; have v25 := L.v25; have t30 := L.t30; have a30 := L.a30; have z30 := L.z30; have v30 := L.v30; have t66 := L.t66; have a66 := L.a66; have z66 := L.z66; have t68 := L.t68; have a68 := L.a68; have z68 := L.z68; have v68 := L.v68; have t69 := L.t69; have a69 := L.a69; have z69 := L.z69; have v69 := L.v69
  have u0 := run_underlying L.t0; have u3 := run_underlying L.t3; have u4 := run_underlying L.t4; have u5 := run_underlying L.t5; have u21 := run_underlying L.t21; have u25 := run_underlying L.t25; have u30 := run_underlying L.t30; have u66 := run_underlying L.t66; have u68 := run_underlying L.t68; have u69 := run_underlying L.t69
  go_enter L.f49, Body7.n49_ntmps ρ
  go_wp2
  go_ret2
  exact ⟨rfl, rfl⟩

set_option maxHeartbeats 1000000 in
set_option maxRecDepth 1000000 in
theorem Any7.utf8_DecodeRune_empty (L : Lays7.n32 P ρ) (p : Option Addr) (c : Nat) (w : World) :
    Calls P (ρ.f 32) #[.slice p 0 c] w fun e w' => e = .returned (.tuple #[.int .i32 65533, .int .i64 0]) ∧ w' = w := by
  have cS := Any7.utf8_decodeRuneSlow_empty { L with } p c w
  have e49 : ∀ args w, (callFunc (ρ.f 49) args).run P w = .ok (.enter (ρ.f 49) args) w := enters_of L.f49 (by kernel_rfl) rfl
  have t0 := L.t0; have a0 := L.a0; have z0 := L.z0; have v0 := L.v0; have t3 := L.t3; have a3 := L.a3; have z3 := L.z3; have v3 := L.v3; have t4 := L.t4; have a4 := L.a4; have z4 := L.z4; have v4 := L.v4; have t5 := L.t5; have a5 := L.a5; have z5 := L.z5; have v5 := L.v5; have t21 := L.t21; have a21 := L.a21; have z21 := L.z21; have v21 := L.v21; have t25 := L.t25; have a25 := L.a25; have z25 := L.z25; have v25 := L.v25; have t30 := L.t30; have a30 := L.a30; have z30 := L.z30; have v30 := L.v30; have t33 := L.t33; have a33 := L.a33; have z33 := L.z33; have v33 := L.v33; have t66 := L.t66; have a66 := L.a66; have z66 := L.z66; have t68 := L.t68; have a68 := L.a68; have z68 := L.z68; have v68 := L.v68; have t69 := L.t69; have a69 := L.a69; have z69 := L.z69; have v69 := L.v69
  have u0 := run_underlying L.t0; have u3 := run_underlying L.t3; have u4 := run_underlying L.t4; have u5 := run_underlying L.t5; have u21 := run_underlying L.t21; have u25 := run_underlying L.t25; have u30 := run_underlying L.t30; have u33 := run_underlying L.t33; have u66 := run_underlying L.t66; have u68 := run_underlying L.t68; have u69 := run_underlying L.t69
  go_enter L.f32, Body7.n32_ntmps ρ
  go_wp2
  go_loop [8] (fun i => i = .int .i64 0) (fun _ => 0)
  case atStart => rfl
  case round =>
    subst hrel
    go_wp2_with (go_at_fn (ρ.f 49); refine cS.mono ?_; rintro e w' ⟨rfl, rfl⟩)
    go_ret2
    exact ⟨rfl, rfl⟩
end Go.Proofs
