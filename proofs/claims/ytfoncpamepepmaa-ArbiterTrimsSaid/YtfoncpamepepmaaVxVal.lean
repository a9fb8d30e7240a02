import Derived.Test.YtfoncpamepepmaaVxWeak
import Derived.Laws.BitsAllLaws
import Derived.Laws.Bits64
set_option linter.unusedSimpArgs false
set_option linter.unusedVariables false
namespace Go.Vx
section
variable {κ : KV} {k k' : IntKind} {a b : Int} {s t : List UInt8} {p : Bool}
theorem b_add : binA .add (.d (.int k a)) (.d (.int k b)) κ = κ (.d (.int k (k.wrap (a + b)))) [] := by simp [binA, binW, binI]
theorem b_sub : binA .sub (.d (.int k a)) (.d (.int k b)) κ = κ (.d (.int k (k.wrap (a - b)))) [] := by simp [binA, binW, binI]
theorem b_mul : binA .mul (.d (.int k a)) (.d (.int k b)) κ = κ (.d (.int k (k.wrap (a * b)))) [] := by simp [binA, binW, binI]
theorem b_quo : binA .quo (.d (.int k a)) (.d (.int k b)) κ = (b ≠ 0 ∧ κ (.d (.int k (k.wrap (a.tdiv b)))) []) := by simp [binA, binW, binI]
theorem b_rem : binA .rem (.d (.int k a)) (.d (.int k b)) κ = (b ≠ 0 ∧ κ (.d (.int k (a.tmod b))) []) := by simp [binA, binW, binI]
theorem b_and : binA .and (.d (.int k a)) (.d (.int k b)) κ = κ (.d (.int k (k.wrap ((BitVec.ofInt k.bits a &&& BitVec.ofInt k.bits b).toNat)))) [] := by simp [binA, binW, binI]
theorem b_or : binA .or (.d (.int k a)) (.d (.int k b)) κ = κ (.d (.int k (k.wrap ((BitVec.ofInt k.bits a ||| BitVec.ofInt k.bits b).toNat)))) [] := by simp [binA, binW, binI]
theorem b_xor : binA .xor (.d (.int k a)) (.d (.int k b)) κ = κ (.d (.int k (k.wrap ((BitVec.ofInt k.bits a ^^^ BitVec.ofInt k.bits b).toNat)))) [] := by simp [binA, binW, binI]
theorem b_andNot : binA .andNot (.d (.int k a)) (.d (.int k b)) κ = κ (.d (.int k (k.wrap ((BitVec.ofInt k.bits a &&& ~~~ BitVec.ofInt k.bits b).toNat)))) [] := by simp [binA, binW, binI]
theorem b_eql : binA .eql (.d (.int k a)) (.d (.int k b)) κ = κ (.d (.bool (decide (a = b)))) [] := by simp [binA, binW, binI]
theorem b_neq : binA .neq (.d (.int k a)) (.d (.int k b)) κ = κ (.d (.bool (decide (a ≠ b)))) [] := by simp [binA, binW, binI]
theorem b_lss : binA .lss (.d (.int k a)) (.d (.int k b)) κ = κ (.d (.bool (decide (a < b)))) [] := by simp [binA, binW, binI]
theorem b_leq : binA .leq (.d (.int k a)) (.d (.int k b)) κ = κ (.d (.bool (decide (a ≤ b)))) [] := by simp [binA, binW, binI]
theorem b_gtr : binA .gtr (.d (.int k a)) (.d (.int k b)) κ = κ (.d (.bool (decide (b < a)))) [] := by simp [binA, binW, binI]
theorem b_geq : binA .geq (.d (.int k a)) (.d (.int k b)) κ = κ (.d (.bool (decide (b ≤ a)))) [] := by simp [binA, binW, binI]
theorem b_shl : binA .shl (.d (.int k a)) (.d (.int k' b)) κ = (0 ≤ b ∧ κ (.d (.int k (k.wrap (a * 2 ^ (min b.toNat k.bits))))) []) := by simp [binA, binW, binI]
theorem b_shr : binA .shr (.d (.int k a)) (.d (.int k' b)) κ = (0 ≤ b ∧ κ (.d (.int k (a / (2 ^ (min b.toNat k.bits))))) []) := by simp [binA, binW, binI]
theorem s_add : binA .add (.d (.str s)) (.d (.str t)) κ = (s.length + t.length ≤ 9223372036854775807 ∧ κ (.d (.str (s ++ t))) []) := by simp [binA, binW, binS]
theorem s_eql : binA .eql (.d (.str s)) (.d (.str t)) κ = κ (.d (.bool (decide (s = t)))) [] := by simp [binA, binW, binS]
theorem s_neq : binA .neq (.d (.str s)) (.d (.str t)) κ = κ (.d (.bool (decide (s ≠ t)))) [] := by simp [binA, binW, binS]
theorem s_lss : binA .lss (.d (.str s)) (.d (.str t)) κ = κ (.d (.bool (Op.bytesLess s t))) [] := by simp [binA, binW, binS]
theorem s_leq : binA .leq (.d (.str s)) (.d (.str t)) κ = κ (.d (.bool (Op.bytesLess s t || decide (s = t)))) [] := by simp [binA, binW, binS]
theorem s_gtr : binA .gtr (.d (.str s)) (.d (.str t)) κ = κ (.d (.bool (!(Op.bytesLess s t || decide (s = t))))) [] := by simp [binA, binW, binS]
theorem s_geq : binA .geq (.d (.str s)) (.d (.str t)) κ = κ (.d (.bool (!Op.bytesLess s t))) [] := by simp [binA, binW, binS]
theorem u_neg : unA .neg (.d (.int k a)) κ = κ (.d (.int k (k.wrap (0 - a)))) [] := by simp [unA, unW]
theorem u_xor : unA .xor (.d (.int k a)) κ = κ (.d (.int k (k.wrap ((BitVec.ofInt k.bits (if k.signed then -1 else k.max) ^^^ BitVec.ofInt k.bits a).toNat)))) [] := by simp [unA, unW]
theorem u_not : unA .not (.d (.bool p)) κ = κ (.d (.bool (!p))) [] := by simp [unA, unW]
end

theorem cells_agg {cs : List V} {sz : Nat} {f : List V → Prop} : cellsW (.agg cs) sz f = (cs.length = sz ∧ cs.all oneV = true ∧ f cs) := by
  simp only [cellsW, List.all_eq_true]
theorem cells_d {x : D} {sz : Nat} {f : List V → Prop} : cellsW (.d x) sz f = (sz = 1 ∧ f [.d x]) := rfl
theorem cells_osl {a b c d e sz : Nat} {f : List V → Prop} : cellsW (.osl a b c d e) sz f = (sz = 1 ∧ f [.osl a b c d e]) := rfl
theorem cells_optr {a b c d e sz : Nat} {f : List V → Prop} : cellsW (.optr a b c d e) sz f = (sz = 1 ∧ f [.optr a b c d e]) := rfl
theorem cells_fn {g : Fn} {a b : List V} {sz : Nat} {f : List V → Prop} : cellsW (.fn g a b) sz f = (sz = 1 ∧ f [.fn g a b]) := rfl

theorem ev_t {fr : List V} {i : Nat} : Opd.ev fr (.t i) = nth fr i := rfl
theorem ev_k {fr : List V} {v : V} : Opd.ev fr (.k v) = v := rfl
theorem nth_z {x : V} {l : List V} : nth (x :: l) 0 = x := rfl
theorem nth_s {x : V} {l : List V} {n : Nat} : nth (x :: l) (n + 1) = nth l n := rfl
theorem set_z {x v : V} {l : List V} : setN (x :: l) 0 v = v :: l := rfl
theorem set_s {x v : V} {l : List V} {n : Nat} : setN (x :: l) (n + 1) v = x :: setN l n v := rfl
theorem put_s {fr : List V} {d : Nat} {v : V} : putV fr (some d) v = setN fr d v := rfl
theorem put_n {fr : List V} {v : V} : putV fr none v = fr := rfl
theorem sr_n {rows : Rows} : setRows rows [] = rows := rfl
theorem sr_c {rows : Rows} {h : Nat} {r : RowS} {l : List (Nat × RowS)} : setRows rows ((h, r) :: l) = setRows (setAt rows h r) l := by
  rw [setRows]; congr 1
  induction rows generalizing h with
  | nil => rfl
  | cons x rows ih => cases h with
    | zero => rfl
    | succ h => simp [setAt, ih]
theorem sa_z {x r : RowS} {l : Rows} : setAt (x :: l) 0 r = r :: l := rfl
theorem sa_s {x r : RowS} {l : Rows} {n : Nat} : setAt (x :: l) (n + 1) r = x :: setAt l n r := rfl

theorem wr_i64 {n : Int} (h : -9223372036854775808 ≤ n) (h' : n ≤ 9223372036854775807) : IntKind.i64.wrap n = n := by
  rw [IntKind.wrap_i64]; omega
theorem wr_u64 {n : Int} (h : 0 ≤ n) (h' : n ≤ 18446744073709551615) : IntKind.u64.wrap n = n := by
  rw [IntKind.wrap_u64]; omega
theorem wr_u16 {n : Int} (h : 0 ≤ n) (h' : n ≤ 65535) : IntKind.u16.wrap n = n := by
  rw [IntKind.wrap_u16]; omega
theorem wr_u8 {n : Int} (h : 0 ≤ n) (h' : n ≤ 255) : IntKind.u8.wrap n = n := by
  rw [IntKind.wrap_u8]; omega
theorem wr_u32 {n : Int} (h : 0 ≤ n) (h' : n ≤ 4294967295) : IntKind.u32.wrap n = n := by
  rw [IntKind.wrap_u32]; omega

end Go.Vx
