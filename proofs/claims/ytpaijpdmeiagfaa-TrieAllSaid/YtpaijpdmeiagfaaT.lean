import Derived.Test.YtpaijpdmeiagfaaProg
import Derived.Test.YtpaijpdmeiagfaaK
import Derived.Test.YtpaijpdmeiagfaaM
import Derived.KernelRfl
namespace Go.Proofs.Ytpaijpdmeiagfaa
open Go Go.RowKit Go.WideMaps Go.Proofs.Kk Go.Proofs.Tm

def z256 : List Int := List.replicate 256 0
def zTrie : Array Value := (byt (List.replicate 4352 0) ++ [Value.slice none 0 0]).toArray

theorem infoBlock : (Try.prog.info? 56).map (fun i => (i.zero, i.size, i.bytes)) = some (some (bagg z256), 256, 256) := by kernel_rfl
theorem infoTrie : (Try.prog.info? 53).map (fun i => (i.zero, i.size, i.bytes)) = some (some (.agg zTrie), 4353, 4376) := by kernel_rfl
theorem infoU8 : (Try.prog.info? 5).map (fun i => (i.zero, i.size, i.bytes)) = some (some (.int .u8 0), 1, 1) := by kernel_rfl
theorem infoInt : (Try.prog.info? 3).map (fun i => (i.zero, i.size, i.bytes)) = some (some (.int .i64 0), 1, 8) := by kernel_rfl
theorem infoProp : (Try.prog.info? 36).map (fun i => (i.zero, i.size, i.bytes)) = some (some (.agg #[.int .i64 0, .int .i64 0, .int .u8 0]), 3, 24) := by kernel_rfl
theorem infoRTrie : (Try.prog.info? 59).map (fun i => (i.zero, i.size, i.bytes)) = some (some (.agg #[.slice none 0 0, .slice none 0 0]), 2, 48) := by kernel_rfl
theorem zero_of {t : TypeId} {z : Value} {n m : Nat} (h : (Try.prog.info? t).map (fun i => (i.zero, i.size, i.bytes)) = some (some z, n, m)) : (Try.prog.info? t).map (·.zero) = some (some z) := by
  obtain ⟨i, h1, h2, _⟩ := info_parts h
  rw [h1]; simp [h2]
theorem size_of {t : TypeId} {z : Value} {n m : Nat} (h : (Try.prog.info? t).map (fun i => (i.zero, i.size, i.bytes)) = some (some z, n, m)) : (Try.prog.info? t).map (·.size) = some n := by
  obtain ⟨i, h1, _, h2, _⟩ := info_parts h
  rw [h1]; simp [h2]
theorem typesSize0 : (0 == Try.prog.types.size) = false := by kernel_rfl
theorem typesSize : ∃ m, Try.prog.types.size = m + 1 := by
  have h := typesSize0
  cases hn : Try.prog.types.size with
  | zero => rw [hn] at h; simp at h
  | succ n => exact ⟨n, rfl⟩
theorem blkKey : ArrKey Try.prog 56 5 256 := ⟨by kernel_rfl, by kernel_rfl, by kernel_rfl, by kernel_rfl⟩
theorem u8U : Try.prog.underlying 5 = some (.int .u8) := by kernel_rfl
theorem mapU : Try.prog.underlying 54 = some (.map 56 3) := by kernel_rfl
theorem intZ (w : World) : (zeroValue 3).run Try.prog w = .ok (.int .i64 0) w := by kernel_rfl
theorem blocksU : Try.prog.underlying 51 = some (.slice 56) := by kernel_rfl
theorem bytesU : Try.prog.underlying 39 = some (.slice 5) := by kernel_rfl
theorem intsU : Try.prog.underlying 23 = some (.slice 3) := by kernel_rfl
theorem propsU : Try.prog.underlying 22 = some (.slice 36) := by kernel_rfl
theorem blockU : Try.prog.underlying 56 = some (.array 256 5) := by kernel_rfl
theorem likeU : Try.prog.underlying 50 = some (.array 4352 5) := by kernel_rfl
theorem isBlk_z : IsBlk z256 := by
  unfold z256
  refine ⟨List.length_replicate, fun x hx => ?_⟩
  have := List.eq_of_mem_replicate hx
  omega
end Go.Proofs.Ytpaijpdmeiagfaa
