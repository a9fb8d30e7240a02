import Derived.Test.YtgeiklkjlmfpfaaS7
import Derived.Test.YtgeiklkjlmfpfaaVxArg
set_option linter.unusedSimpArgs false
set_option linter.unusedVariables false
namespace Go.Proofs.Hs
open Go.Vx
theorem hashMixes' (a b : Int) (ha : (Lit.int .u64 a).wf = true) (hb : (Lit.int .u64 b).wf = true) : CallP Try.prog 7 [.d (.int .u64 a), .d (.int .u64 b)] (.d (.bool true)) := by
  obtain ⟨x, rfl⟩ := bv_u64 (lit_u64 ha)
  obtain ⟨y, rfl⟩ := bv_u64 (lit_u64 hb)
  exact hashMixes x y
theorem hashInverts' (a b : Int) (ha : (Lit.int .u64 a).wf = true) (hb : (Lit.int .u64 b).wf = true) : CallP Try.prog 8 [.d (.int .u64 a), .d (.int .u64 b)] (.d (.bool true)) := by
  obtain ⟨x, rfl⟩ := bv_u64 (lit_u64 ha)
  obtain ⟨y, rfl⟩ := bv_u64 (lit_u64 hb)
  exact hashInverts x y
theorem hashGrows' (s : B) (c : Int) (hc : (Lit.int .u8 c).wf = true) : CallP Try.prog 6 [.d (.str s), .d (.int .u8 c)] (.d (.bool true)) := by
  obtain ⟨x, rfl⟩ := bv_u8 (lit_u8 hc)
  exact hashGrows s x
end Go.Proofs.Hs
