/-
  A still column: what the program's two makers give.
-/
import Derived.Test.YtdjllbkfbmdlfaaE1
namespace Go.Proofs.Ytdjllbkfbmdlfaa
open Go Go.AE
set_option maxRecDepth 100000
set_option linter.unusedSimpArgs false
variable {R h : H}
theorem far_cn (op : BinOp) (x y : Nat) : cn .f32 (far op .f32 x y) = far op .f32 x y := by
  unfold far
  cases hf : fbits op .f32 x y with
  | none => simp only [Option.getD_none]; exact cn_of (isn_qn .f32)
  | some r => simp only [Option.getD_some]; exact cn_of_not (fbits_notnan hf)
theorem far_lt (op : BinOp) (x y : Nat) : far op .f32 x y < 4294967296 := by
  unfold far
  cases hf : fbits op .f32 x y with
  | none => decide
  | some r =>
    have hw : (2 : Nat) ^ FloatKind.f32.format.width = 4294967296 := by decide +kernel
    simp only [Option.getD_some]
    cases op <;> simp only [fbits] at hf <;> first | (cases hf; done) | skip
    · have := FloatKind.f32.format.add_lt hf; omega
    · have := FloatKind.f32.format.sub_lt hf; omega
    · have := FloatKind.f32.format.mul_lt hf; omega
    · have := FloatKind.f32.format.div_lt hf; omega
theorem cv_int (n : Int) : cvV (.toFloat .f32) (.int .i64 n) = some (.float .f32 (FloatKind.f32.nearest n)) := by simp [cvV]
theorem splice_get {cs vs : List Value} {off : Nat} (h : off + vs.length ≤ cs.length) (k : Nat) : (splice cs off vs)[k]? = if k < off then cs[k]? else if k < off + vs.length then vs[k - off]? else cs[k]? := by
  unfold splice
  have h1 : (cs.take off).length = off := by simp; omega
  by_cases hk : k < off
  · rw [if_pos hk, List.getElem?_append_left (by omega), List.getElem?_take, if_pos hk]
  · rw [if_neg hk, List.getElem?_append_right (by omega), h1]
    by_cases hk2 : k < off + vs.length
    · rw [if_pos hk2, List.getElem?_append_left (by omega)]
    · rw [if_neg hk2, List.getElem?_append_right (by omega), List.getElem?_drop]
      congr 1; omega
def zc : List Value := List.replicate 177 (Value.float .f32 0) ++ [Value.int .i64 0]
theorem zc_len : zc.length = 178 := by simp [zc]
/-- The heat of a cell. -/
def heatAt (u : Nat) (i : Nat) : Nat := far .sub .f32 u (far .mul .f32 1073741824 (FloatKind.f32.nearest (i : Int)))
/-- The column after so many cells. -/
def stl (u v : Nat) : Nat → List Value
  | 0 => zc
  | i + 1 => splice (stl u v i) (160 + i * 2) [.float .f32 (heatAt u i), .float .f32 v]
theorem stl_len (u v : Nat) : ∀ i, i ≤ 8 → (stl u v i).length = 178
  | 0, _ => zc_len
  | i + 1, h => by
    unfold stl
    rw [splice_length (by simp [stl_len u v i (by omega)]; omega)]
    exact stl_len u v i (by omega)
def airAt (u v n j : Nat) : Nat := if j < 2 * n then (if j % 2 = 0 then heatAt u (j / 2) else v) else 0
theorem stl_col (u v : Nat) (hv : v < 4294967296) (hc : cn .f32 v = v) : ∀ i, i ≤ 8 → Col (stl u v i) (fun _ => 0) (airAt u v i) 0 0
  | 0, _ => by
    have z0 : cn .f32 0 = 0 := by decide +kernel
    refine ⟨zc_len, fun i hi => ⟨?_, by decide, z0⟩, fun i hi => ⟨?_, ?_, ?_⟩, ⟨?_, by decide, z0⟩, ?_⟩
    · show zc[0 + i]? = _
      unfold zc
      rw [List.getElem?_append_left (by simp; omega), List.getElem?_replicate, if_pos (by omega)]
    · show zc[160 + i]? = _
      unfold zc airAt
      rw [List.getElem?_append_left (by simp; omega), List.getElem?_replicate, if_pos (by omega), if_neg (by omega)]
    · unfold airAt; rw [if_neg (by omega)]; decide
    · unfold airAt; rw [if_neg (by omega)]; exact z0
    · show zc[176]? = _
      unfold zc
      rw [List.getElem?_append_left (by simp), List.getElem?_replicate, if_pos (by omega)]
    · show zc[177]? = _
      unfold zc
      rw [List.getElem?_append_right (by simp)]; simp
  | i + 1, h => by
    have ih := stl_col u v hv hc i (by omega)
    have hlen := stl_len u v i (by omega)
    have hle : 160 + i * 2 + [Value.float .f32 (heatAt u i), Value.float .f32 v].length ≤ (stl u v i).length := by simp [hlen]; omega
    have hg : ∀ k, (stl u v (i + 1))[k]? = if k < 160 + i * 2 then (stl u v i)[k]? else if k < 160 + i * 2 + 2 then [Value.float .f32 (heatAt u i), Value.float .f32 v][k - (160 + i * 2)]? else (stl u v i)[k]? := fun k => splice_get hle k
    refine ⟨stl_len u v (i + 1) h, fun k hk => ?_, fun k hk => ?_, ?_, ?_⟩
    · have := ih.drops k hk
      rw [hg, if_pos (by omega)]; exact this
    · have hh : airAt u v (i + 1) k < 4294967296 ∧ cn .f32 (airAt u v (i + 1) k) = airAt u v (i + 1) k := by
        unfold airAt
        split
        · split
          · exact ⟨far_lt _ _ _, far_cn _ _ _⟩
          · exact ⟨hv, hc⟩
        · exact ⟨by decide, by decide +kernel⟩
      refine ⟨?_, hh⟩
      rw [hg]
      have hk0 := (ih.airs k hk).1
      by_cases h1 : k < i * 2
      · rw [if_pos (by omega), hk0]
        unfold airAt
        simp only [show k < 2 * i from by omega, show k < 2 * (i + 1) from by omega, if_true]
      · by_cases h2 : k < i * 2 + 2
        · rw [if_neg (by omega), if_pos (by omega)]
          unfold airAt
          rw [if_pos (by omega)]
          have hcase : k = i * 2 ∨ k = i * 2 + 1 := by omega
          rcases hcase with rfl | rfl
          · rw [if_pos (by omega), show 160 + i * 2 - (160 + i * 2) = 0 by omega, show i * 2 / 2 = i by omega]; rfl
          · rw [if_neg (by omega), show 160 + (i * 2 + 1) - (160 + i * 2) = 1 by omega]; rfl
        · rw [if_neg (by omega), if_neg (by omega), hk0]
          unfold airAt
          rw [if_neg (by omega), if_neg (by omega)]
    · rw [hg, if_neg (by omega), if_neg (by omega)]; exact ih.gauge
    · rw [hg, if_neg (by omega), if_neg (by omega)]; exact ih.ticks
end Go.Proofs.Ytdjllbkfbmdlfaa
