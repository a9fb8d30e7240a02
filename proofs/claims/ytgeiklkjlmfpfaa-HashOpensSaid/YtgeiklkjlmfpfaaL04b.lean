import Derived.Test.YtgeiklkjlmfpfaaS10
import Derived.Test.YtgeiklkjlmfpfaaVxArg
set_option linter.unusedSimpArgs false
set_option linter.unusedVariables false
namespace Go.Proofs.Hs
open Go.Vx
theorem hashMixes2 (a b : Int) (ha : (Lit.int .u64 a).wf = true) (hb : (Lit.int .u64 b).wf = true) : CallP Try.prog 7 [.d (.int .u64 a), .d (.int .u64 b)] (.d (.bool true)) := by
  obtain ⟨x, rfl⟩ := bv_u64 (lit_u64 ha)
  obtain ⟨y, rfl⟩ := bv_u64 (lit_u64 hb)
  exact hashMixes x y
theorem hashInverts2 (a b : Int) (ha : (Lit.int .u64 a).wf = true) (hb : (Lit.int .u64 b).wf = true) : CallP Try.prog 8 [.d (.int .u64 a), .d (.int .u64 b)] (.d (.bool true)) := by
  obtain ⟨x, rfl⟩ := bv_u64 (lit_u64 ha)
  obtain ⟨y, rfl⟩ := bv_u64 (lit_u64 hb)
  exact hashInverts x y
theorem hashGrows2 (s : B) (c : Int) (hc : (Lit.int .u8 c).wf = true) : CallP Try.prog 6 [.d (.str s), .d (.int .u8 c)] (.d (.bool true)) := by
  obtain ⟨x, rfl⟩ := bv_u8 (lit_u8 hc)
  exact hashGrows s x
theorem hashOpens' (s : B) (a c : Int) (ha : (Lit.int .i64 a).wf = true) (hc : (Lit.int .u8 c).wf = true) : CallP Try.prog 5 [.d (.str s), .d (.int .i64 a), .d (.int .u8 c)] (.d (.bool true)) := by
  obtain ⟨x, rfl⟩ := bv_u8 (lit_u8 hc)
  exact hashOpens s a x (lit_i64 ha)
end Go.Proofs.Hs
