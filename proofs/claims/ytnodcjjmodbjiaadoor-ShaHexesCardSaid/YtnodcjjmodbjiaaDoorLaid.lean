/- What the program's own variable holds as a call begins, told to the walks; and a world that fits. -/
import Derived.Test.YtnodcjjmodbjiaaDoorRows
import Derived.Test.YtnodcjjmodbjiaaDoorSSum
import Derived.ProofKit
import Derived.Lib.LaidTab
import Derived.Deep.DeepHandedRow
namespace Go.Proofs.YtnodcjjmodbjiaaDoor
open Go Go.RowKit

theorem gK : Tryd.prog.globalNamed "hoard/sha.k" = some 0 := by kernel_rfl
theorem gKType : (Tryd.prog.globals[0]?).map (·.type) = some 60 := by kernel_rfl
def kInts : List Int := [1116352408, 1899447441, 3049323471, 3921009573, 961987163, 1508970993, 2453635748, 2870763221, 3624381080, 310598401, 607225278, 1426881987, 1925078388, 2162078206, 2614888103, 3248222580, 3835390401, 4022224774, 264347078, 604807628, 770255983, 1249150122, 1555081692, 1996064986, 2554220882, 2821834349, 2952996808, 3210313671, 3336571891, 3584528711, 113926993, 338241895, 666307205, 773529912, 1294757372, 1396182291, 1695183700, 1986661051, 2177026350, 2456956037, 2730485921, 2820302411, 3259730800, 3345764771, 3516065817, 3600352804, 4094571909, 275423344, 430227734, 506948616, 659060556, 883997877, 958139571, 1322822218, 1537002063, 1747873779, 1955562222, 2024104815, 2227730452, 2361852424, 2428436474, 2756734187, 3204031479, 3329325298]
theorem k_map : kInts.map (Value.int .u32) = Sha.K.map U32 := by rfl
theorem k_ints (i : Nat) (hi : i < 64) : Value.int .u32 (kInts.getD i 0) = U32 (wordAt Sha.K i) := by
  have h := congrArg (fun l => l[i]?) k_map
  simp only [List.getElem?_map] at h
  have h1 : kInts[i]? = some (kInts.getD i 0) := by rw [List.getD_eq_getElem?_getD, List.getElem?_eq_getElem (show i < kInts.length from hi)]; rfl
  have h2 : Sha.K[i]? = some (wordAt Sha.K i) := by rw [wordAt, List.getD_eq_getElem?_getD, List.getElem?_eq_getElem (show i < Sha.K.length from hi)]; rfl
  rw [h1, h2] at h
  exact Option.some.inj h
theorem sha_of_laid {W : World} (h : laidMetH Tryd.prog [("hoard/sha.k", Rows.laid_hoard_sha_k)] W) : KTab W := by
  have ht : Lib.TabIs Tryd.prog W "hoard/sha.k" .u32 kInts :=
    Lib.tabIs_of_head (rest := []) gK gKType Tryd.underlying60 Tryd.underlying42 (by kernel_rfl) (by kernel_rfl) h
  intro i hi
  rw [ht.cell gK i hi, k_ints i hi]
noncomputable def laidWorld (os : Os) : World :=
  { World.holding Tryd.prog os ⟨#[], #[], []⟩ with heap := (World.holding Tryd.prog os ⟨#[], #[], []⟩).heap.modify 0 fun
      | .cells _ t frozen => .cells #[.int .u32 1116352408, .int .u32 1899447441, .int .u32 3049323471, .int .u32 3921009573, .int .u32 961987163, .int .u32 1508970993, .int .u32 2453635748, .int .u32 2870763221, .int .u32 3624381080, .int .u32 310598401, .int .u32 607225278, .int .u32 1426881987, .int .u32 1925078388, .int .u32 2162078206, .int .u32 2614888103, .int .u32 3248222580, .int .u32 3835390401, .int .u32 4022224774, .int .u32 264347078, .int .u32 604807628, .int .u32 770255983, .int .u32 1249150122, .int .u32 1555081692, .int .u32 1996064986, .int .u32 2554220882, .int .u32 2821834349, .int .u32 2952996808, .int .u32 3210313671, .int .u32 3336571891, .int .u32 3584528711, .int .u32 113926993, .int .u32 338241895, .int .u32 666307205, .int .u32 773529912, .int .u32 1294757372, .int .u32 1396182291, .int .u32 1695183700, .int .u32 1986661051, .int .u32 2177026350, .int .u32 2456956037, .int .u32 2730485921, .int .u32 2820302411, .int .u32 3259730800, .int .u32 3345764771, .int .u32 3516065817, .int .u32 3600352804, .int .u32 4094571909, .int .u32 275423344, .int .u32 430227734, .int .u32 506948616, .int .u32 659060556, .int .u32 883997877, .int .u32 958139571, .int .u32 1322822218, .int .u32 1537002063, .int .u32 1747873779, .int .u32 1955562222, .int .u32 2024104815, .int .u32 2227730452, .int .u32 2361852424, .int .u32 2428436474, .int .u32 2756734187, .int .u32 3204031479, .int .u32 3329325298] t frozen
      | o => o }
end Go.Proofs.YtnodcjjmodbjiaaDoor
