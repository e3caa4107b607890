import Derived.Test.YtpaijpdmeiagfaaDoorProg
import Derived.Test.YtpaijpdmeiagfaaDoorK
import Derived.Test.YtpaijpdmeiagfaaDoorM
import Derived.KernelRfl
namespace Go.Proofs.YtpaijpdmeiagfaaDoor
open Go Go.RowKit Go.WideMaps Go.Proofs.Kk Go.Proofs.Tm

def z256 : List Int := List.replicate 256 0
def zTrie : Array Value := (byt (List.replicate 4352 0) ++ [Value.slice none 0 0]).toArray

theorem infoBlock : (Tryd.prog.info? 93).map (fun i => (i.zero, i.size, i.bytes)) = some (some (bagg z256), 256, 256) := by kernel_rfl
theorem infoTrie : (Tryd.prog.info? 97).map (fun i => (i.zero, i.size, i.bytes)) = some (some (.agg zTrie), 4353, 4376) := by kernel_rfl
theorem infoU8 : (Tryd.prog.info? 5).map (fun i => (i.zero, i.size, i.bytes)) = some (some (.int .u8 0), 1, 1) := by kernel_rfl
theorem infoInt : (Tryd.prog.info? 3).map (fun i => (i.zero, i.size, i.bytes)) = some (some (.int .i64 0), 1, 8) := by kernel_rfl
theorem infoProp : (Tryd.prog.info? 68).map (fun i => (i.zero, i.size, i.bytes)) = some (some (.agg #[.int .i64 0, .int .i64 0, .int .u8 0]), 3, 24) := by kernel_rfl
theorem infoRTrie : (Tryd.prog.info? 104).map (fun i => (i.zero, i.size, i.bytes)) = some (some (.agg #[.slice none 0 0, .slice none 0 0]), 2, 48) := by kernel_rfl
theorem zero_of {t : TypeId} {z : Value} {n m : Nat} (h : (Tryd.prog.info? t).map (fun i => (i.zero, i.size, i.bytes)) = some (some z, n, m)) : (Tryd.prog.info? t).map (·.zero) = some (some z) := by
  obtain ⟨i, h1, h2, _⟩ := info_parts h
  rw [h1]; simp [h2]
theorem size_of {t : TypeId} {z : Value} {n m : Nat} (h : (Tryd.prog.info? t).map (fun i => (i.zero, i.size, i.bytes)) = some (some z, n, m)) : (Tryd.prog.info? t).map (·.size) = some n := by
  obtain ⟨i, h1, _, h2, _⟩ := info_parts h
  rw [h1]; simp [h2]
theorem typesSize0 : (0 == Tryd.prog.types.size) = false := by kernel_rfl
theorem typesSize : ∃ m, Tryd.prog.types.size = m + 1 := by
  have h := typesSize0
  cases hn : Tryd.prog.types.size with
  | zero => rw [hn] at h; simp at h
  | succ n => exact ⟨n, rfl⟩
theorem blkKey : ArrKey Tryd.prog 93 5 256 := ⟨by kernel_rfl, by kernel_rfl, by kernel_rfl, by kernel_rfl⟩
theorem u8U : Tryd.prog.underlying 5 = some (.int .u8) := by kernel_rfl
theorem mapU : Tryd.prog.underlying 101 = some (.map 93 3) := by kernel_rfl
theorem intZ (w : World) : (zeroValue 3).run Tryd.prog w = .ok (.int .i64 0) w := by kernel_rfl
theorem blocksU : Tryd.prog.underlying 95 = some (.slice 93) := by kernel_rfl
theorem bytesU : Tryd.prog.underlying 33 = some (.slice 5) := by kernel_rfl
theorem intsU : Tryd.prog.underlying 22 = some (.slice 3) := by kernel_rfl
theorem propsU : Tryd.prog.underlying 65 = some (.slice 68) := by kernel_rfl
theorem blockU : Tryd.prog.underlying 93 = some (.array 256 5) := by kernel_rfl
theorem likeU : Tryd.prog.underlying 94 = some (.array 4352 5) := by kernel_rfl
theorem isBlk_z : IsBlk z256 := by
  unfold z256
  refine ⟨List.length_replicate, fun x hx => ?_⟩
  have := List.eq_of_mem_replicate hx
  omega
end Go.Proofs.YtpaijpdmeiagfaaDoor
