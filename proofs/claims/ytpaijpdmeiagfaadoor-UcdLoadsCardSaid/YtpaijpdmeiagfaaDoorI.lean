import Derived.Test.YtpaijpdmeiagfaaDoorF
import Derived.WalkSmall
namespace Go.Proofs.YtpaijpdmeiagfaaDoor
open Go Go.RowKit Go.WideMaps Go.Proofs.Kk Go.Proofs.Tm Go.Proofs.Gg

/-- a build that goes well -/
theorem build_good (v : Value) (l : List P3) (w : World) (h : PropsAt w w.heap.size v l) (hl : l.length ≤ 4096) (ho : l.any oddB = false) (T : TD) (hT : Hid (T = tdOf (pval l))) (hf : Hid (T.F.length ≤ 256)) :
    Calls Tryd.prog 89 #[v] w fun e w' => ∃ B, e = .returned (.tuple #[.pointer (some ⟨B, 0, none⟩), .int .i64 0]) ∧ TrieAt w' w'.heap.size B T ∧ Below w.heap.size w w' :=
  (build_ok v l w h hl ho T hT).mono fun e w' ⟨hp, hb⟩ => by
    rcases hp with ⟨B, he, ht, _⟩ | ⟨_, hlt⟩
    · exact ⟨B, he, ht, hb⟩
    · have := hf.out; omega

/-- a build that is refused -/
def badN (l : List P3) : Int := if 4096 < l.length then 3 else if l.any oddB then 1 else 3
theorem build_bad (v : Value) (l : List P3) (w : World) (h : PropsAt w w.heap.size v l) (hbad : ¬ (l.length ≤ 4096 ∧ l.any oddB = false ∧ (tdOf (pval l)).F.length ≤ 256)) :
    Calls Tryd.prog 89 #[v] w fun e w' => e = .returned (.tuple #[.pointer none, .int .i64 (badN l)]) ∧ Below w.heap.size w w' := by
  by_cases hl : 4096 < l.length
  · refine (build_long v l w h hl).mono fun e w' ⟨he, hb⟩ => ⟨?_, hb⟩
    rw [he, badN, if_pos hl]; rfl
  · cases ho : l.any oddB with
    | true =>
      refine (build_odd v l w h (by omega) ho).mono fun e w' ⟨he, hb⟩ => ⟨?_, hb⟩
      rw [he, badN, if_neg hl, if_pos ho]; rfl
    | false =>
      refine (build_ok v l w h (by omega) ho _ rfl).mono fun e w' ⟨hp, hb⟩ => ⟨?_, hb⟩
      rcases hp with ⟨B, he, ht, hf⟩ | ⟨he, _⟩
      · exact absurd ⟨by omega, ho, hf⟩ hbad
      · rw [he, badN, if_neg hl, if_neg (by rw [ho]; simp)]; rfl

def l3 : List P3 := [⟨65, 66, 3⟩]

theorem l3_val (r : Int) : pval l3 r = if 65 ≤ r ∧ r ≤ 66 then 3 else 0 := by simp [pval, l3]

theorem l3_blocks : (tdOf (pval l3)).F.length = 2 := by
  have ho := tdOf_of (pval l3)
  have hz : ∀ k : Nat, k ≠ 0 → blk (pval l3) k = conB 0 := fun k hk => blk_con fun r h1 h2 => by rw [l3_val, if_neg (by omega)]
  have h1 := len_le (B := [blk (pval l3) 0, conB 0]) ho.nodup (by
    intro b hb
    obtain ⟨k, hk, rfl⟩ := mem_blks.1 ((ho.mem b).1 hb)
    by_cases h0 : k = 0
    · subst h0; simp
    · simp [hz k h0])
  have h2 := len_le (A := [blk (pval l3) 0, conB 0]) (B := (tdOf (pval l3)).F) (by
    rw [List.nodup_cons]
    refine ⟨?_, by simp⟩
    intro hm
    simp only [List.mem_singleton] at hm
    have := blk_get (pval l3) 0 65 (by omega)
    rw [hm, l3_val] at this
    rw [conB, List.getElem?_replicate] at this
    simp at this) (by
    intro b hb
    simp only [List.mem_cons, List.not_mem_nil, or_false] at hb
    rcases hb with rfl | rfl
    · exact (ho.mem _).2 (mem_blks.2 ⟨0, by omega, rfl⟩)
    · exact (ho.mem _).2 (mem_blks.2 ⟨1, by omega, hz 1 (by omega)⟩))
  simp at h1 h2; omega

theorem below_drewN' (w : World) (n B : Nat) : Below B w (w.drewN n) := ⟨rfl, rfl, rfl, Nat.le_refl _, fun _ _ => rfl⟩

end Go.Proofs.YtpaijpdmeiagfaaDoor
