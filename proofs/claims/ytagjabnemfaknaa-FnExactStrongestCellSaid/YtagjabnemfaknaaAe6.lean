/-
  Calls, statements, loops and functions: what the evaluator gives is what the run gives (a statement whose order is open: the next text).
-/
import Derived.Test.YtagjabnemfaknaaAe5
namespace Go.AE
set_option linter.unusedVariables false
set_option linter.unusedSimpArgs false

variable {e e' : Emb} {B : Nat} {R h : H} {w w' : World} {P : Program}

/-! ### Functions without a body -/
def rowOf : Ext → (Array Value → Sem Value)
  | .f32bits => Extern.MathFloatBits.float32bits
  | .f32from => Extern.MathFloatBits.float32frombits
  | .f64bits => Extern.MathFloatBits.float64bits
  | .f64from => Extern.MathFloatBits.float64frombits
  | .rte => Extern.MathFloor.toIntegral "math.RoundToEven" .even
  | .floor => Extern.MathFloor.toIntegral "math.archFloor" .down
  | .sqrt => Extern.MathSqrt.sqrt

theorem look1 {n : String} {r : Array Value → Sem Value} (h1 : (Extern.allGenericRows.lookup n).isNone = true) (h2 : (Extern.allTypedRows.lookup n).isNone = true) (h3 : Extern.allRows.lookup n = some r) {fn : Func} (hn : fn.name = n) :
    Extern.find fn = some r := by
  unfold Extern.find
  simp only [hn]
  rw [Option.isNone_iff_eq_none] at h1 h2
  simp [h1, h2, h3]

theorem find_ext {fn : Func} {x : Ext} (h : extOf fn.name = some x) : Extern.find fn = some (rowOf x) := by
  unfold extOf at h
  split at h
  · rename_i hn; cases h; exact look1 (by kernel_rfl) (by kernel_rfl) (by kernel_rfl) (by simpa using hn)
  split at h
  · rename_i hn; cases h; exact look1 (by kernel_rfl) (by kernel_rfl) (by kernel_rfl) (by simpa using hn)
  split at h
  · rename_i hn; cases h; exact look1 (by kernel_rfl) (by kernel_rfl) (by kernel_rfl) (by simpa using hn)
  split at h
  · rename_i hn; cases h; exact look1 (by kernel_rfl) (by kernel_rfl) (by kernel_rfl) (by simpa using hn)
  split at h
  · rename_i hn; cases h; exact look1 (by kernel_rfl) (by kernel_rfl) (by kernel_rfl) (by simpa using hn)
  split at h
  · rename_i hn; cases h; exact look1 (by kernel_rfl) (by kernel_rfl) (by kernel_rfl) (by simpa using hn)
  split at h
  · rename_i hn; cases h; exact look1 (by kernel_rfl) (by kernel_rfl) (by kernel_rfl) (by simpa using hn)
  cases h

theorem quiet_nan (s : Bool) (t : Nat) : isn .f64 (FloatKind.f64.encode (.nan s (FloatKind.f64.format.quiet t))) = true := by
  have hpos : 0 < FloatKind.f64.format.quiet t % FloatKind.f64.format.binade := by
    apply Nat.pos_of_ne_zero
    intro h0
    have h1 : (FloatKind.f64.format.quiet t % FloatKind.f64.format.binade).testBit 51 = true := by
      show ((t ||| 2 ^ 51) % 2 ^ 52).testBit 51 = true
      rw [Nat.testBit_mod_two_pow, Nat.testBit_or, Nat.testBit_two_pow_self, Bool.or_true]
      rfl
    rw [h0] at h1
    simp at h1
  have hlt : FloatKind.f64.format.quiet t % FloatKind.f64.format.binade < FloatKind.f64.format.binade := Nat.mod_lt _ (Nat.two_pow_pos _)
  have := nan_of_rung (k := .f64) (s := s.toNat) (by cases s <;> decide) hpos hlt
  cases s
  · simpa [FloatKind.encode, Ieee.Format.write, Ieee.Format.word] using this
  · simpa [FloatKind.encode, Ieee.Format.write, Ieee.Format.word, Nat.add_assoc] using this

theorem toIntegral_def (name : String) (way : Ieee.Toward) (x : Nat) : Extern.MathFloor.toIntegral name way #[.float .f64 x] = (match FloatKind.f64.decode x with
    | .nan s t =>
      if FloatKind.f64.format.quiet t = t then pure (.float .f64 x) else do
      let kept ← choose (.extern "math.Floor,Ceil,Trunc,RoundToEven.signallingNaN kept" 2)
      pure (.float .f64 (if kept == 1 then x else FloatKind.f64.encode (.nan s (FloatKind.f64.format.quiet t))))
    | d => pure (.float .f64 (FloatKind.f64.encode (d.integral way)))) := rfl
theorem sqrt_def (x : Nat) : Extern.MathSqrt.sqrt #[.float .f64 x] = (match FloatKind.f64.format.sqrt x with
    | some r => pure (.float .f64 r)
    | none => do pure (.float .f64 (← choose (.nanBits .f64 x x)))) := rfl

theorem integral_rel (name : String) (way : Ieee.Toward) (b : Nat) (w : World) :
    ∃ r w', (Extern.MathFloor.toIntegral name way #[.float .f64 b]).run P w = .ok (.float .f64 r) w' ∧
      cn .f64 r = (if isn .f64 (cn .f64 b) then qn .f64 else FloatKind.f64.encode ((FloatKind.f64.decode (cn .f64 b)).integral way)) ∧ Drw w w' := by
  rw [isn_cn]
  cases hn : isn .f64 b with
  | true =>
    simp only [if_true]
    cases hd : FloatKind.f64.decode b with
    | nan s t =>
      simp only [toIntegral_def, hd]
      by_cases hq : FloatKind.f64.format.quiet t = t
      · exact ⟨b, w, by rw [if_pos hq]; rfl, cn_of hn, Drw.refl w⟩
      · rw [if_neg hq]
        have hf : (Question.extern "math.Floor,Ceil,Trunc,RoundToEven.signallingNaN kept" 2).forced = false := rfl
        simp only [Sem.run_bind, run_choose hf, Result.andThen_ok]
        refine ⟨_, _, rfl, ?_, Drw.drew _ _⟩
        split
        · exact cn_of hn
        · exact cn_of (quiet_nan s t)
    | infinity s => simp [isn, hd, Ieee.Datum.isNaN] at hn
    | number s m p => simp [isn, hd, Ieee.Datum.isNaN] at hn
  | false =>
    simp only [Bool.false_eq_true, if_false]
    rw [cn_of_not hn]
    have hnn : ((FloatKind.f64.decode b).integral way).isNaN = false := by
      have : (FloatKind.f64.decode b).isNaN = false := hn
      cases hd : FloatKind.f64.decode b <;> rw [hd] at this <;> first | rfl | simp [Ieee.Datum.isNaN] at this
    refine ⟨FloatKind.f64.encode ((FloatKind.f64.decode b).integral way), w, ?_, cn_of_not (encode_notnan _ hnn), Drw.refl w⟩
    cases hd : FloatKind.f64.decode b with
    | nan s t => simp [isn, hd, Ieee.Datum.isNaN] at hn
    | infinity s => simp only [toIntegral_def, hd]; rfl
    | number s m p => simp only [toIntegral_def, hd]; rfl

theorem ext_rel {x : Ext} {vs as : List Value} {v : Value} (hF : F2 (VR e) vs as) (h : extV x as = some v) (w : World) :
    ∃ cv w', (rowOf x vs.toArray).run P w = .ok cv w' ∧ VR e cv v ∧ Drw w w' := by
  unfold extV at h
  split at h
  · cases hF with
    | cons h1 h2 =>
      cases h2
      obtain ⟨b, rfl, rfl⟩ := h1.inv_float
      split at h
      · cases h
      · rename_i hn
        cases h
        rw [isn_cn] at hn
        refine ⟨_, w, rfl, ?_, Drw.refl w⟩
        rw [cn_of_not (by simpa using hn)]
        exact (CR.int _ _).vr
  · cases hF with
    | cons h1 h2 =>
      cases h2
      obtain ⟨b, rfl, rfl⟩ := h1.inv_float
      split at h
      · cases h
      · rename_i hn
        cases h
        rw [isn_cn] at hn
        refine ⟨_, w, rfl, ?_, Drw.refl w⟩
        rw [cn_of_not (by simpa using hn)]
        exact (CR.int _ _).vr
  · cases hF with
    | cons h1 h2 =>
      cases h2
      have := h1.inv_int
      subst this
      cases h
      exact ⟨_, w, rfl, (CR.float _ _).vr, Drw.refl w⟩
  · cases hF with
    | cons h1 h2 =>
      cases h2
      have := h1.inv_int
      subst this
      cases h
      exact ⟨_, w, rfl, (CR.float _ _).vr, Drw.refl w⟩
  · cases hF with
    | cons h1 h2 =>
      cases h2
      obtain ⟨b, rfl, rfl⟩ := h1.inv_float
      cases h
      obtain ⟨r, w', hr, hc, hd⟩ := integral_rel (P := P) "math.RoundToEven" .even b w
      exact ⟨_, w', hr, by rw [← hc]; exact (CR.float _ _).vr, hd⟩
  · cases hF with
    | cons h1 h2 =>
      cases h2
      obtain ⟨b, rfl, rfl⟩ := h1.inv_float
      cases h
      obtain ⟨r, w', hr, hc, hd⟩ := integral_rel (P := P) "math.archFloor" .down b w
      exact ⟨_, w', hr, by rw [← hc]; exact (CR.float _ _).vr, hd⟩
  · cases hF with
    | cons h1 h2 =>
      cases h2
      obtain ⟨b, rfl, rfl⟩ := h1.inv_float
      cases h
      rw [sqrt_cn]
      cases hs : FloatKind.f64.format.sqrt b with
      | some r =>
        refine ⟨.float .f64 r, w, ?_, ?_, Drw.refl w⟩
        · show (Extern.MathSqrt.sqrt #[.float .f64 b]).run P w = _
          rw [sqrt_def, hs]; rfl
        · have := CR.float (e := e) .f64 r
          rw [cn_of_not (sqrt_notnan hs)] at this
          exact this.vr
      | none =>
        obtain ⟨c1, c2⟩ := cut_nan .f64 (.nanBits .f64 b b) (.inl ⟨b, b, rfl⟩) (w.tape w.drawn (.nanBits .f64 b b))
        refine ⟨.float .f64 ((Question.nanBits .f64 b b).cut (w.tape w.drawn (.nanBits .f64 b b))), { w with drawn := w.drawn + 1 }, ?_, ?_, Drw.drew _ _⟩
        · show (Extern.MathSqrt.sqrt #[.float .f64 b]).run P w = _
          rw [sqrt_def, hs]
          simp only [Sem.run_bind, run_choose c2, Result.andThen_ok]; rfl
        · have := CR.float (e := e) .f64 ((Question.nanBits .f64 b b).cut (w.tape w.drawn (.nanBits .f64 b b)))
          rw [cn_of c1] at this
          exact this.vr
  · cases h

end Go.AE
