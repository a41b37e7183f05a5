
/- Texts in a walk: what a walk of the texts is told of the package-level variables; decimal, the reader of decimals. -/
import Derived.Test.YtgajgonepcikbaaDoorShelf
import Derived.Test.YtgajgonepcikbaaDoorGcd
import Derived.Test.YtgajgonepcikbaaDoorTxt
import Derived.WalkSmall
import Derived.Lib.SmallJoins
import Derived.Lib.AppendIntMem
import Derived.WalkSpells
namespace Go.Proofs.YtgajgonepcikbaaDoor
open Go.RowKit Go.Joins

/-- a string value of bytes -/
def bs (l : List UInt8) : ByteArray := ⟨l.toArray⟩
theorem bs_size (l : List UInt8) : (bs l).size = l.length := by simp [bs, ByteArray.size]
theorem bs_toList (l : List UInt8) : (bs l).toList = l := by simp [bs]
theorem bs_data (l : List UInt8) : (bs l).data.toList = l := by simp [bs]
theorem bs_app (a b : List UInt8) : bs a ++ bs b = bs (a ++ b) := by apply ByteArray.ext; simp [bs, ByteArray.data_append]
theorem bs_of (s : ByteArray) : s = bs s.data.toList := by apply ByteArray.ext; simp [bs]
theorem bs_inj {a b : List UInt8} (h : bs a = bs b) : a = b := by rw [← bs_data a, h, bs_data]
theorem bs_eq (a b : List UInt8) : (a == b) = true ↔ a = b := beq_iff_eq

/-- the table of powers of ten lies as the program's text lays it -/
def Tb (w : World) : Prop := Lib.TabIs Tryd.prog w "internal/strconv.uint64pow10" .u64 Lib.pow10Tab
theorem gPow : Tryd.prog.globalNamed "internal/strconv.uint64pow10" = some 5 := by kernel_rfl
theorem Tb.below {w w' : World} (h : Tb w) (hb : Below w.heap.size w w') : Tb w' := tab_stays gPow h hb (Nat.le_refl _)

theorem decimal_any (n : Int) (h0 : -9223372036854775808 ≤ n) (h1 : n ≤ 9223372036854775807) (w : World) (hT : Tb w) :
    Calls Tryd.prog 109 #[.int .i64 n] w fun e w' => e = .returned (.string (bs (Lib.itoa n))) ∧ Below w.heap.size w w' := by
  have HT := Lib.hid hT
  clear hT
  have fmt : ∀ w : World, Hid (Tb w) → Calls Tryd.prog 129 #[.int .i64 n, .int .i64 10] w fun e w' => e = .returned (.string (bs (Lib.itoa n))) ∧ Below w.heap.size w w' := fun w h =>
    (Tryd.strconv_FormatInt_10 n h0 h1 w h.out).mono fun e w' ⟨he, k, os, hw⟩ => ⟨he, by rw [hw]; exact Lib.below_grow _ _ (Nat.le_refl _) _ _⟩
  have FM := Lib.hid fmt
  clear fmt
  go_enter Tryd.func109, Tryd.ntmps109
  go_wp2_with fail
  refine (FM.out _ HT).mono ?_
  rintro e w' ⟨rfl, hb⟩
  have HB := Lib.hid hb
  clear hb
  go_wp2
  go_ret
  exact ⟨rfl, HB.out⟩
end Go.Proofs.YtgajgonepcikbaaDoor
