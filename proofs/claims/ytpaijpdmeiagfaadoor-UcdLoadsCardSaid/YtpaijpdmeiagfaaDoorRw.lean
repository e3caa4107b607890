/- The tables: what is plain of them. -/
import Derived.Test.YtpaijpdmeiagfaaDoorTb
namespace Go.Proofs.Tm
def rowsC : List P3 :=
  [⟨0, 9, 3⟩, ⟨10, 10, 2⟩, ⟨11, 12, 3⟩, ⟨13, 13, 1⟩, ⟨14, 31, 3⟩, ⟨127, 159, 3⟩, ⟨173, 173, 3⟩, ⟨768, 879, 4⟩,
   ⟨1155, 1161, 4⟩, ⟨1425, 1469, 4⟩, ⟨1536, 1541, 7⟩, ⟨1552, 1562, 4⟩, ⟨1611, 1631, 4⟩, ⟨1757, 1757, 7⟩, ⟨1807, 1807, 7⟩, ⟨2307, 2307, 8⟩,
   ⟨2362, 2362, 4⟩, ⟨2363, 2363, 8⟩, ⟨2364, 2364, 4⟩, ⟨2366, 2368, 8⟩, ⟨2369, 2376, 4⟩, ⟨2377, 2380, 8⟩, ⟨2381, 2381, 4⟩, ⟨2382, 2383, 8⟩,
   ⟨3633, 3633, 4⟩, ⟨3635, 3635, 8⟩, ⟨3636, 3642, 4⟩, ⟨3655, 3662, 4⟩, ⟨3761, 3761, 4⟩, ⟨3763, 3763, 8⟩, ⟨3764, 3772, 4⟩, ⟨3784, 3790, 4⟩,
   ⟨4352, 4447, 9⟩, ⟨4448, 4519, 10⟩, ⟨4520, 4607, 11⟩, ⟨6068, 6069, 4⟩, ⟨6070, 6070, 8⟩, ⟨6071, 6077, 4⟩, ⟨6078, 6085, 8⟩, ⟨6086, 6086, 4⟩,
   ⟨6087, 6088, 8⟩, ⟨6089, 6099, 4⟩, ⟨6109, 6109, 4⟩, ⟨7616, 7679, 4⟩, ⟨8203, 8203, 3⟩, ⟨8204, 8204, 4⟩, ⟨8205, 8205, 5⟩, ⟨8206, 8207, 3⟩,
   ⟨8232, 8238, 3⟩, ⟨8288, 8303, 3⟩, ⟨8400, 8432, 4⟩, ⟨12330, 12335, 4⟩, ⟨12441, 12442, 4⟩, ⟨65024, 65039, 4⟩, ⟨65056, 65071, 4⟩, ⟨65279, 65279, 3⟩,
   ⟨69821, 69821, 7⟩, ⟨127462, 127487, 6⟩, ⟨127995, 127999, 4⟩, ⟨917505, 917505, 3⟩, ⟨917536, 917631, 4⟩, ⟨917760, 917999, 4⟩]
def rowsW : List P3 :=
  [⟨10, 10, 2⟩, ⟨11, 12, 3⟩, ⟨13, 13, 1⟩, ⟨32, 32, 18⟩, ⟨34, 34, 12⟩, ⟨39, 39, 11⟩, ⟨44, 44, 15⟩, ⟨46, 46, 13⟩,
   ⟨48, 57, 16⟩, ⟨58, 58, 14⟩, ⟨59, 59, 15⟩, ⟨65, 90, 10⟩, ⟨95, 95, 17⟩, ⟨97, 122, 10⟩, ⟨133, 133, 3⟩, ⟨170, 170, 10⟩,
   ⟨173, 173, 6⟩, ⟨181, 181, 10⟩, ⟨183, 183, 14⟩, ⟨186, 186, 10⟩, ⟨192, 214, 10⟩, ⟨216, 246, 10⟩, ⟨248, 727, 10⟩, ⟨768, 879, 4⟩,
   ⟨880, 883, 10⟩, ⟨886, 887, 10⟩, ⟨891, 893, 10⟩, ⟨894, 894, 15⟩, ⟨895, 895, 10⟩, ⟨902, 902, 10⟩, ⟨903, 903, 14⟩, ⟨904, 1023, 10⟩,
   ⟨1024, 1153, 10⟩, ⟨1155, 1161, 4⟩, ⟨1162, 1327, 10⟩, ⟨1329, 1366, 10⟩, ⟨1375, 1375, 14⟩, ⟨1377, 1415, 10⟩, ⟨1417, 1417, 15⟩, ⟨1425, 1469, 4⟩,
   ⟨1488, 1514, 9⟩, ⟨1519, 1522, 9⟩, ⟨1524, 1524, 14⟩, ⟨1536, 1541, 6⟩, ⟨1548, 1549, 15⟩, ⟨1552, 1562, 4⟩, ⟨1568, 1610, 10⟩, ⟨1611, 1631, 4⟩,
   ⟨1632, 1641, 16⟩, ⟨1643, 1643, 16⟩, ⟨1644, 1644, 15⟩, ⟨1649, 1747, 10⟩, ⟨1757, 1757, 6⟩, ⟨1776, 1785, 16⟩, ⟨1807, 1807, 6⟩, ⟨2040, 2040, 15⟩,
   ⟨2307, 2307, 4⟩, ⟨2308, 2361, 10⟩, ⟨2362, 2364, 4⟩, ⟨2366, 2383, 4⟩, ⟨2406, 2415, 16⟩, ⟨3633, 3633, 4⟩, ⟨3635, 3642, 4⟩, ⟨3655, 3662, 4⟩,
   ⟨3664, 3673, 16⟩, ⟨3761, 3761, 4⟩, ⟨3763, 3772, 4⟩, ⟨3784, 3790, 4⟩, ⟨3792, 3801, 16⟩, ⟨4256, 4351, 10⟩, ⟨4352, 4680, 10⟩, ⟨5760, 5760, 18⟩,
   ⟨6068, 6099, 4⟩, ⟨6109, 6109, 4⟩, ⟨6112, 6121, 16⟩, ⟨7616, 7679, 4⟩, ⟨7680, 8124, 10⟩, ⟨8192, 8198, 18⟩, ⟨8200, 8202, 18⟩, ⟨8204, 8204, 4⟩,
   ⟨8205, 8205, 5⟩, ⟨8206, 8207, 6⟩, ⟨8216, 8217, 13⟩, ⟨8228, 8228, 13⟩, ⟨8231, 8231, 14⟩, ⟨8232, 8233, 3⟩, ⟨8234, 8238, 6⟩, ⟨8239, 8239, 17⟩,
   ⟨8255, 8256, 17⟩, ⟨8260, 8260, 15⟩, ⟨8276, 8276, 17⟩, ⟨8287, 8287, 18⟩, ⟨8288, 8292, 6⟩, ⟨8294, 8303, 6⟩, ⟨8400, 8432, 4⟩, ⟨12288, 12288, 18⟩,
   ⟨12330, 12335, 4⟩, ⟨12337, 12341, 8⟩, ⟨12441, 12442, 4⟩, ⟨12443, 12444, 8⟩, ⟨12448, 12538, 8⟩, ⟨12540, 12543, 8⟩, ⟨12784, 12799, 8⟩, ⟨44032, 55203, 10⟩,
   ⟨64285, 64285, 9⟩, ⟨64287, 64296, 9⟩, ⟨65024, 65039, 4⟩, ⟨65040, 65040, 15⟩, ⟨65043, 65043, 14⟩, ⟨65044, 65044, 15⟩, ⟨65056, 65071, 4⟩, ⟨65075, 65076, 17⟩,
   ⟨65101, 65103, 17⟩, ⟨65106, 65106, 13⟩, ⟨65109, 65109, 14⟩, ⟨65279, 65279, 6⟩, ⟨65287, 65287, 13⟩, ⟨65292, 65292, 15⟩, ⟨65294, 65294, 13⟩, ⟨65296, 65305, 16⟩,
   ⟨65306, 65306, 14⟩, ⟨65307, 65307, 15⟩, ⟨65343, 65343, 17⟩, ⟨65382, 65437, 8⟩, ⟨127462, 127487, 7⟩, ⟨127995, 127999, 4⟩, ⟨917505, 917505, 6⟩, ⟨917536, 917631, 4⟩,
   ⟨917760, 917999, 4⟩]
def rowsS : List P3 :=
  [⟨3585, 3642, 2⟩, ⟨3648, 3662, 2⟩, ⟨3713, 3773, 3⟩, ⟨3776, 3790, 3⟩, ⟨3804, 3807, 3⟩, ⟨6016, 6067, 4⟩, ⟨6070, 6099, 4⟩, ⟨6103, 6103, 4⟩,
   ⟨6108, 6109, 4⟩, ⟨11904, 12245, 1⟩, ⟨12293, 12295, 1⟩, ⟨12321, 12329, 1⟩, ⟨12344, 12347, 1⟩, ⟨12353, 12438, 1⟩, ⟨12445, 12447, 1⟩, ⟨12449, 12538, 1⟩,
   ⟨12541, 12543, 1⟩, ⟨12784, 12799, 1⟩, ⟨13312, 19903, 1⟩, ⟨19968, 40959, 1⟩, ⟨63744, 64217, 1⟩, ⟨65382, 65391, 1⟩, ⟨65393, 65437, 1⟩, ⟨131072, 195101, 1⟩]
def rowsP : List P3 :=
  [⟨169, 169, 1⟩, ⟨174, 174, 1⟩, ⟨8252, 8252, 1⟩, ⟨8265, 8265, 1⟩, ⟨8482, 8482, 1⟩, ⟨8505, 8505, 1⟩, ⟨8596, 8601, 1⟩, ⟨8617, 8618, 1⟩,
   ⟨8986, 8987, 1⟩, ⟨9000, 9000, 1⟩, ⟨9167, 9167, 1⟩, ⟨9193, 9203, 1⟩, ⟨9410, 9410, 1⟩, ⟨9642, 9643, 1⟩, ⟨9654, 9654, 1⟩, ⟨9664, 9664, 1⟩,
   ⟨9723, 9726, 1⟩, ⟨9728, 9733, 1⟩, ⟨9735, 9746, 1⟩, ⟨9748, 9861, 1⟩, ⟨9872, 9989, 1⟩, ⟨9992, 10002, 1⟩, ⟨10004, 10004, 1⟩, ⟨10006, 10006, 1⟩,
   ⟨10013, 10013, 1⟩, ⟨10017, 10017, 1⟩, ⟨10024, 10024, 1⟩, ⟨10035, 10036, 1⟩, ⟨10052, 10052, 1⟩, ⟨10055, 10055, 1⟩, ⟨10060, 10060, 1⟩, ⟨10062, 10062, 1⟩,
   ⟨10067, 10069, 1⟩, ⟨10071, 10071, 1⟩, ⟨10083, 10087, 1⟩, ⟨10133, 10135, 1⟩, ⟨10145, 10145, 1⟩, ⟨10160, 10160, 1⟩, ⟨10175, 10175, 1⟩, ⟨10548, 10549, 1⟩,
   ⟨11013, 11015, 1⟩, ⟨11035, 11036, 1⟩, ⟨11088, 11088, 1⟩, ⟨11093, 11093, 1⟩, ⟨12336, 12336, 1⟩, ⟨12349, 12349, 1⟩, ⟨12951, 12951, 1⟩, ⟨12953, 12953, 1⟩,
   ⟨126976, 127231, 1⟩, ⟨127245, 127247, 1⟩, ⟨127279, 127279, 1⟩, ⟨127340, 127345, 1⟩, ⟨127358, 127359, 1⟩, ⟨127374, 127374, 1⟩, ⟨127377, 127386, 1⟩, ⟨127489, 127503, 1⟩,
   ⟨127514, 127514, 1⟩, ⟨127535, 127535, 1⟩, ⟨127538, 127546, 1⟩, ⟨127561, 127994, 1⟩, ⟨128000, 128317, 1⟩, ⟨128326, 128591, 1⟩, ⟨128640, 128767, 1⟩, ⟨129292, 129338, 1⟩,
   ⟨129340, 129349, 1⟩, ⟨129351, 129791, 1⟩]
theorem rowsC_rise : riseB (-1) rowsC = true := by decide +kernel
theorem rowsC_in : ∀ x ∈ rowsC, 0 ≤ x.lo ∧ x.hi ≤ 1114111 ∧ 0 ≤ x.v ∧ x.v ≤ 11 := by decide +kernel
theorem rowsC_few : (tdOf (pval rowsC)).F.length ≤ 256 := by
  have := tdOf_len rowsC [0, 3, 4, 5, 6, 7, 9, 14, 17, 23, 29, 32, 48, 254, 272, 497, 499, 3584, 3585] [1, 2, 3, 4, 5, 6, 7, 8, 9, 10, 11] (by decide +kernel)
  simp at this; omega
theorem rowsW_rise : riseB (-1) rowsW = true := by decide +kernel
theorem rowsW_in : ∀ x ∈ rowsW, 0 ≤ x.lo ∧ x.hi ≤ 1114111 ∧ 0 ≤ x.v ∧ x.v ≤ 18 := by decide +kernel
theorem rowsW_few : (tdOf (pval rowsW)).F.length ≤ 256 := by
  have := tdOf_len rowsW [0, 2, 3, 4, 5, 6, 7, 9, 14, 16, 17, 18, 22, 23, 29, 30, 31, 32, 48, 49, 172, 215, 251, 254, 255, 497, 499, 3584, 3585] [1, 2, 3, 4, 5, 6, 7, 8, 9, 10, 11, 12, 13, 14, 15, 16, 17, 18] (by decide +kernel)
  simp at this; omega
theorem rowsS_rise : riseB (-1) rowsS = true := by decide +kernel
theorem rowsS_in : ∀ x ∈ rowsS, 0 ≤ x.lo ∧ x.hi ≤ 1114111 ∧ 0 ≤ x.v ∧ x.v ≤ 4 := by decide +kernel
theorem rowsS_few : (tdOf (pval rowsS)).F.length ≤ 256 := by
  have := tdOf_len rowsS [14, 23, 46, 47, 48, 49, 52, 77, 78, 159, 249, 250, 255, 512, 762] [1, 2, 3, 4] (by decide +kernel)
  simp at this; omega
theorem rowsP_rise : riseB (-1) rowsP = true := by decide +kernel
theorem rowsP_in : ∀ x ∈ rowsP, 0 ≤ x.lo ∧ x.hi ≤ 1114111 ∧ 0 ≤ x.v ∧ x.v ≤ 1 := by decide +kernel
theorem rowsP_few : (tdOf (pval rowsP)).F.length ≤ 256 := by
  have := tdOf_len rowsP [0, 32, 33, 35, 36, 37, 38, 39, 41, 43, 48, 50, 496, 497, 498, 499, 500, 501, 502, 505, 506] [1] (by decide +kernel)
  simp at this; omega
theorem marks_both : ∀ x ∈ rowsC, x.v = 4 → coverB 4 x.lo x.hi rowsW = true := by decide +kernel
theorem script_word : ∀ x ∈ rowsS, ∀ y ∈ rowsW, (y.v = 16 ∨ y.v = 18) → x.hi < y.lo ∨ y.hi < x.lo := by decide +kernel
theorem pict_steer : ∀ x ∈ rowsP, ∀ y ∈ rowsC, y.v ≤ 3 → x.hi < y.lo ∨ y.hi < x.lo := by decide +kernel

/-- what the shipped tables tell -/
def clK (r : Int) : Int := if r < 44032 ∨ 55203 < r then pval rowsC r else if (r - 44032) % 28 = 0 then 12 else 13
def wdK (r : Int) : Int := pval rowsW r
def scK (r : Int) : Int := pval rowsS r
def piB (r : Int) : Bool := decide (pval rowsP r ≠ 0)

theorem pval_bound {l : List P3} {m : Int} (h : ∀ x ∈ l, 0 ≤ x.lo ∧ x.hi ≤ 1114111 ∧ 0 ≤ x.v ∧ x.v ≤ m) (hm : 0 ≤ m) (r : Int) : 0 ≤ pval l r ∧ pval l r ≤ m := by
  rcases pval_cases l r with e | ⟨x, hx, _, _, e⟩
  · rw [e]; omega
  · rw [e]; have := h x hx; omega
theorem pval_outside {l : List P3} {m : Int} (h : ∀ x ∈ l, 0 ≤ x.lo ∧ x.hi ≤ 1114111 ∧ 0 ≤ x.v ∧ x.v ≤ m) (r : Int) (h0 : r < 0 ∨ 1114111 < r) : pval l r = 0 :=
  pval_zero l r fun x hx => by have := h x hx; omega
theorem wdK_rng (r : Int) : 0 ≤ wdK r ∧ wdK r ≤ 18 := pval_bound rowsW_in (by omega) r
theorem scK_rng (r : Int) : 0 ≤ scK r ∧ scK r ≤ 4 := pval_bound rowsS_in (by omega) r
theorem clC_rng (r : Int) : 0 ≤ pval rowsC r ∧ pval rowsC r ≤ 11 := pval_bound rowsC_in (by omega) r
theorem clK_rng (r : Int) : 0 ≤ clK r ∧ clK r ≤ 13 := by
  have := clC_rng r
  unfold clK
  split
  · omega
  · split <;> omega
theorem law_hangul (r : Int) : ((clK r = 12 ∨ clK r = 13) ↔ (44032 ≤ r ∧ r ≤ 55203)) ∧ (clK r = 12 ↔ (44032 ≤ r ∧ r ≤ 55203) ∧ (r - 44032) % 28 = 0) := by
  have := clC_rng r
  unfold clK
  split
  · omega
  · split <;> omega
theorem law_marks (r : Int) (h : clK r = 4) : wdK r = 4 := by
  unfold clK at h
  split at h
  · rcases pval_cases rowsC r with e | ⟨x, hx, h1, h2, e⟩
    · omega
    · obtain ⟨y, hy, g1, g2, g3⟩ := coverB_spec (marks_both x hx (by omega)) h1 h2
      unfold wdK
      rw [pval_in_rise rowsW_rise hy g1 g2, g3]
  · split at h <;> omega
theorem law_script (r : Int) : scK r = 0 ∨ (wdK r ≠ 16 ∧ wdK r ≠ 18) := by
  rcases pval_cases rowsS r with e | ⟨x, hx, h1, h2, e⟩
  · exact .inl e
  · right
    rcases pval_cases rowsW r with f | ⟨y, hy, g1, g2, f⟩
    · unfold wdK; omega
    · unfold wdK
      rw [f]
      constructor <;>
      · intro h
        have := script_word x hx y hy (by omega)
        omega
theorem law_pict (r : Int) (h : piB r = true) : clK r < 1 ∨ 3 < clK r := by
  have hp : pval rowsP r ≠ 0 := by simpa [piB] using h
  have hb := clC_rng r
  unfold clK
  split
  · rcases pval_cases rowsP r with e | ⟨x, hx, h1, h2, e⟩
    · exact absurd e hp
    · rcases pval_cases rowsC r with f | ⟨y, hy, g1, g2, f⟩
      · omega
      · rcases Int.lt_or_le 3 y.v with g | g
        · omega
        · have := pict_steer x hx y hy g
          omega
  · split <;> omega
theorem law_outside (r : Int) (h0 : r < 0 ∨ 1114111 < r) : clK r = 0 ∧ wdK r = 0 ∧ scK r = 0 ∧ piB r = false := by
  refine ⟨?_, pval_outside rowsW_in r h0, pval_outside rowsS_in r h0, ?_⟩
  · unfold clK
    rw [if_pos (by omega)]
    exact pval_outside rowsC_in r h0
  · simp [piB, pval_outside rowsP_in r h0]
end Go.Proofs.Tm
