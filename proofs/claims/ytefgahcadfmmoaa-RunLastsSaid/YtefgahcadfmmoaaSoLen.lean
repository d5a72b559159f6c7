/-
  THE LIBRARY SORT AT ADDRESSES: the worked walks over integers, turned to this seat by program.
-/
import Derived.Test.YtefgahcadfmmoaaChecked
import Derived.Lib.Strings
import Derived.Lib.Slices
import Derived.Lib.Small
import Derived.Lib.Walk
import Derived.Lib.BitFns
import Derived.Test.YtefgahcadfmmoaaSoLen64
namespace Go.Proofs.Ytefgahcadfmmoaa.Srt
theorem So.bits_Len (x : Int) (w : World) (h0 : 0 ≤ x) (h1 : x ≤ 18446744073709551615) :
    Calls Try.prog 62 #[.int .u64 x] w fun e w' => e = .returned (.int .i64 (Lib.bitLen x.toNat)) ∧ w' = w := by
  go_enter Try.func62, Try.ntmps62
  go_wp2_with (go_at_call 74; refine (So.bits_Len64 x _ h0 h1).mono ?_; rintro e w' ⟨rfl, rfl⟩)
  go_ret
  exact ⟨rfl, rfl⟩

end Go.Proofs.Ytefgahcadfmmoaa.Srt
