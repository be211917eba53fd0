/-
  DERIVED: THE SHELF's CONTRACTS AT THIS DUMP, IN PLAIN WORDS (tools/lay-plain.mjs out of 'YtglndonfmmbnhaaDoorShelfO.lean', which tools/lay-shelf.mjs wrote): THE SAME DECLARATIONS UNDER THE SAME NAMES: 'import', 'namespace', 'open', 'def', 'theorem' AND NOTHING ELSE: no command of the shelf's: FOR A HAND-IN. Each laying: the table of numbers ('.._ren') and one theorem, a field a fact of the dump's own or the kernel's comparison; each contract: ONE APPLICATION.
-/
import Derived.Shelf.SlSorted.IsSorted
import Derived.Shelf.SlLaysO
import Derived.Test.YtglndonfmmbnhaaDoorProg
namespace Go.Proofs
open Go.Shelf
def Tryd.laysO10_ren : Go.Shelf.Ren := ⟨fun | 10 => 19 | 18 => 40 | 24 => 49 | n => n, fun | 22 => 34 | 24 => 3 | 4 => 4 | 3 => 3 | 0 => 0 | n => n, fun | n => n⟩
theorem Tryd.laysO10 : Go.Proofs.SlLaysO.n10 Tryd.prog Tryd.laysO10_ren := {
  mixed := by kernel_rfl
  f10 := ⟨Tryd.f19.name, by decide, Tryd.func19.trans (congrArg some (by kernel_rfl))⟩
  f18 := ⟨Tryd.f40.name, by decide, Tryd.func40.trans (congrArg some (by kernel_rfl))⟩
  f24 := ⟨Tryd.f49.name, by decide, Tryd.func49.trans (congrArg some (by kernel_rfl))⟩
  t0 := Tryd.underlying0
  a0 := Tryd.isAgg0
  z0 := Tryd.sizeOf0
  v0 := Tryd.zeroValue0
  t3 := Tryd.underlying3
  a3 := Tryd.isAgg3
  z3 := Tryd.sizeOf3
  v3 := Tryd.zeroValue3
  t4 := Tryd.underlying4
  a4 := Tryd.isAgg4
  z4 := Tryd.sizeOf4
  v4 := Tryd.zeroValue4
  t22 := Tryd.underlying34
  a22 := Tryd.isAgg34
  z22 := Tryd.sizeOf34
  v22 := Tryd.zeroValue34
  t24 := Tryd.underlying3
  a24 := Tryd.isAgg3
  z24 := Tryd.sizeOf3
  v24 := Tryd.zeroValue3 }
theorem Tryd.slices_IsSorted_int (blk off cap : Nat) (d : Array Int) (w : World) (hc : ∀ i, i < d.size → w.cell? ⟨blk, off + i, none⟩ = some ((Value.int .i64) d[i]!)) (hsz : d.size < 4611686018427387904) :
    Calls Tryd.prog 19 #[.slice (some ⟨blk, off, none⟩) d.size cap] w fun e w' => e = .returned (.bool (Lib.downOK (fun x y => decide (x < y)) d (d.size - 1))) ∧ ∃ q, w' = w.drewN q := AnyO.slices_IsSorted_int Tryd.laysO10 blk off cap d w hc hsz
theorem Tryd.slices_IsSorted_none (p : Option Addr) (cap : Nat) (w : World) :
    Calls Tryd.prog 19 #[.slice p 0 cap] w fun e w' => e = .returned (.bool true) ∧ w' = w := AnyO.slices_IsSorted_int_none Tryd.laysO10 p cap w
end Go.Proofs
