/-
  One operation of the evaluator's is one of the run's (calls apart).
-/
import Derived.Test.YtagjabnemfaknaaAe2
import Derived.Laws.FloatArith
namespace Go.AE
set_option linter.unusedVariables false
set_option linter.unusedSimpArgs false

variable {e e' : Emb} {B : Nat} {R h : H} {w w' : World} {P : Program}

/-! ### What a value that stands for another is -/
theorem VR.inv_ptr {v : Value} {q : Addr} (k : VR e v (.pointer (some q))) : ∃ p, v = .pointer (some p) ∧ AR e p q := by
  cases k with
  | base k => cases k with
    | cell k => cases k with | ptr hp => exact ⟨_, rfl, hp⟩
theorem VR.inv_bool {v : Value} {b : Bool} (k : VR e v (.bool b)) : v = .bool b := by
  cases k with
  | base k => cases k with
    | cell k => cases k; rfl
theorem VR.inv_int {v : Value} {k : IntKind} {n : Int} (h : VR e v (.int k n)) : v = .int k n := by
  cases h with
  | base h => cases h with
    | cell h => cases h; rfl
theorem VR.inv_string {v : Value} {s : ByteArray} (h : VR e v (.string s)) : v = .string s := by
  cases h with
  | base h => cases h with
    | cell h => cases h; rfl
theorem VR.inv_float {v : Value} {k : FloatKind} {b : Nat} (h : VR e v (.float k b)) : ∃ x, v = .float k x ∧ b = cn k x := by
  cases h with
  | base h => cases h with
    | cell h => cases h; exact ⟨_, rfl, rfl⟩
theorem VR.inv_complex {v : Value} {k : FloatKind} {a b : Nat} (h : VR e v (.complex k a b)) : ∃ x y, v = .complex k x y ∧ a = cn k x ∧ b = cn k y := by
  cases h with
  | base h => cases h with
    | cell h => cases h; exact ⟨_, _, rfl, rfl, rfl⟩
theorem VR.inv_slice {v : Value} {a : Option Addr} {n c : Nat} (h : VR e v (.slice a n c)) :
    (a = none ∧ v = .slice none n c) ∨ ∃ p q, a = some q ∧ v = .slice (some p) n c ∧ AR e p q := by
  cases h with
  | base h => cases h with
    | cell h => cases h with
      | nils => exact .inl ⟨rfl, rfl⟩
      | slice _ _ hp => exact .inr ⟨_, _, rfl, rfl, hp⟩
theorem VR.inv_func {v : Value} {f : FuncId} (h : VR e v (.func (.func f) #[] #[])) : v = .func (.func f) #[] #[] := by
  cases h with
  | base h => cases h with
    | cell h => cases h; rfl
theorem VR.inv_agg {v : Value} {as : Array Value} (h : VR e v (.agg as)) : ∃ cs : List Value, v = .agg cs.toArray ∧ F2 (CR e) cs as.toList := by
  cases h with
  | base h => cases h with
    | cell h => cases h
    | agg h => exact ⟨_, rfl, h⟩
theorem VR.inv_tuple {v : Value} {as : Array Value} (h : VR e v (.tuple as)) : ∃ cs : List Value, v = .tuple cs.toArray ∧ F2 (V0 e) cs as.toList := by
  cases h with
  | base h => cases h with
    | cell h => cases h
  | tuple h => exact ⟨_, rfl, h⟩

/-- The cells of a value (no tuple). -/
theorem VR.cells {v a : Value} (k : VR e v a) (ht : ∀ vs, a ≠ .tuple vs) : F2 (CR e) (cellsL v) (cellsL a) ∧ v.cells = (cellsL v).toArray := by
  cases k with
  | base k => cases k with
    | cell k => cases k <;> refine ⟨?_, rfl⟩ <;> exact .cons (by constructor <;> assumption) .nil
    | agg k => exact ⟨by simpa [cellsL] using k, by simp [cellsL, Value.cells]⟩
  | tuple k => exact absurd rfl (ht _)

theorem okC_self {v : Value} (h : okC v = true) (e : Emb) : CR e v v := by
  unfold okC at h
  split at h
  all_goals first
    | constructor
    | skip
  · rename_i k b
    have h' : cn k b = b := by simp at h; simp [cn, h]
    have := CR.float (e := e) k b
    rw [h'] at this
    exact this
  · rename_i k x y
    simp at h
    have h1 : cn k x = x := by simp [cn, h.1]
    have h2 : cn k y = y := by simp [cn, h.2]
    have := CR.complex (e := e) k x y
    rw [h1, h2] at this
    exact this
  · cases h

theorem eval_rel {a : Act} {fr : Fr} (hfr : ∀ t, VR e (a.tmps.getD t undef) (fr t)) {x y : Operand} (ht : trX x = some y) : VR e (a.eval x) (av fr y) := by
  cases x <;> simp only [trX] at ht
  · cases ht; exact hfr _
  · split at ht
    · rename_i hc; cases ht; exact (okC_self hc e).vr
    · cases ht
  · cases ht
  · cases ht; exact (CR.func _).vr

/-! ### Types -/
theorem run_info {t : TypeId} {i : TypeInfo} (h : P.info? t = some i) (w : World) : (typeInfo t).run P w = .ok i w := by
  simp [typeInfo, program, Sem.run, h]
theorem run_size {t : TypeId} {n : Nat} (h : sizeL P t = some n) (w : World) : (sizeOf t).run P w = .ok n w := by
  unfold sizeL at h
  cases hi : P.info? t with
  | none => simp [hi] at h
  | some i => simp [hi] at h; simp [sizeOf, run_info hi, h]
theorem run_under {t : TypeId} {d : TypeDesc} (h : P.underlying t = some d) (w : World) : (underlying t).run P w = .ok d w := by
  simp [underlying, program, Sem.run, h]
theorem run_shape {t : TypeId} {n : Option Nat} (h : shapeL P t = some n) (w : World) :
    (isAgg t).run P w = .ok n.isSome w ∧ (∀ m, n = some m → (sizeOf t).run P w = .ok m w) := by
  unfold shapeL at h
  cases hi : P.info? t with
  | none => simp [hi] at h
  | some i =>
    simp only [hi, Option.bind_some] at h
    have hs : (sizeOf t).run P w = .ok i.size w := run_size (by simp [sizeL, hi]) w
    cases hu : P.underlying t with
    | none => simp [hu] at h
    | some d =>
      rw [hu] at h
      cases d <;> simp at h <;> subst h <;> exact ⟨by simp [isAgg, run_under hu], by simp [hs]⟩
theorem run_zero {t : TypeId} {z : List Value} (h : zeroL P t = some z) (w : World) :
    ∃ v, (zeroValue t).run P w = .ok v w ∧ cellsL v = z ∧ v.cells = z.toArray ∧ z.all okC = true ∧ sizeL P t = some z.length := by
  unfold zeroL at h
  cases hi : P.info? t with
  | none => simp [hi] at h
  | some i =>
    simp only [hi, Option.bind_some] at h
    cases hz : i.zero with
    | none => simp [hz] at h
    | some v =>
      simp only [hz, Option.bind_some] at h
      split at h
      · rename_i hc
        cases h
        simp at hc
        refine ⟨v, by simp [zeroValue, run_info hi, hz], rfl, ?_, by simpa using hc.1, by simp [sizeL, hi, hc.2]⟩
        cases v <;> simp [Value.cells, cellsL]
      · cases h
theorem okC_all {z : List Value} (h : z.all okC = true) (e : Emb) : F2 (CR e) z z := by
  induction z with
  | nil => exact .nil
  | cons a l ih => simp at h; exact .cons (okC_self h.1 e) (ih (by simpa using h.2))

/-! ### Floats: one NaN stands for all -/
section
open Ieee
theorem isn_read (k : FloatKind) (b : Nat) : isn k b = (k.format.read b).isNaN := rfl
theorem isn_qn (k : FloatKind) : isn k (qn k) = true := by cases k <;> decide +kernel
theorem isn_cn (k : FloatKind) (b : Nat) : isn k (cn k b) = isn k b := by
  unfold cn
  split
  · rename_i h; rw [isn_qn, h]
  · rfl
theorem cn_cn (k : FloatKind) (b : Nat) : cn k (cn k b) = cn k b := by
  cases h : isn k b <;> simp [cn, h, isn_qn]
theorem cn_of_not {k : FloatKind} {b : Nat} (h : isn k b = false) : cn k b = b := by simp [cn, h]
theorem cn_of {k : FloatKind} {b : Nat} (h : isn k b = true) : cn k b = qn k := by simp [cn, h]

theorem word_read (f : Format) (s : Bool) {r : Nat} (h : r ≤ f.infRung) : (f.read (f.word s r)).isNaN = false := by
  have h1 := f.infRung_lt
  have h0 : 0 < f.signWeight := Nat.two_pow_pos _
  have e : f.word s r % f.signWeight = r := by
    unfold Format.word
    split
    · rw [Nat.add_mod_left, Nat.mod_eq_of_lt (by omega)]
    · exact Nat.mod_eq_of_lt (by omega)
  unfold Format.read
  simp only [e]
  split
  · rfl
  · split
    · rfl
    · rw [if_pos (by omega)]; rfl

theorem write_notnan (f : Format) {d : Datum} (h : d.isNaN = false) : (f.read (f.write d)).isNaN = false := by
  cases d with
  | nan => simp [Datum.isNaN] at h
  | infinity s => exact word_read f s (Nat.le_refl _)
  | number s m p =>
    simp only [Format.write, Format.nearest]
    split
    · exact word_read f s (Nat.zero_le _)
    · exact word_read f s (Nat.min_le_right _ _)

theorem sum_notnan {a b d : Datum} (h : a.sum b = some d) : d.isNaN = false := by
  cases a <;> cases b <;> simp [Datum.sum] at h <;> first | (subst h; rfl) | (obtain ⟨_, rfl⟩ := h; rfl)
theorem product_notnan {a b d : Datum} (h : a.product b = some d) : d.isNaN = false := by
  cases a <;> cases b <;> simp [Datum.product] at h <;> first | (subst h; rfl) | (obtain ⟨_, rfl⟩ := h; rfl)
theorem quotient_notnan {n : Nat} {a b d : Datum} (h : a.quotient n b = some d) : d.isNaN = false := by
  cases a <;> cases b <;> simp only [Datum.quotient] at h
  all_goals first
    | (cases h; done)
    | (cases h; rfl)
    | skip
  split at h
  · split at h
    · cases h
    · cases h; rfl
  · cases h; rfl
theorem root_notnan {n : Nat} {a d : Datum} (h : a.root n = some d) : d.isNaN = false := by
  cases a <;> simp only [Datum.root] at h
  · split at h
    · cases h; rfl
    · split at h
      · cases h
      · cases h; rfl
  · split at h
    · cases h
    · cases h; rfl
  · cases h

theorem sum_nan_l {a b : Datum} (h : a.isNaN = true) : a.sum b = none := by cases a <;> simp [Datum.isNaN] at h; rfl
theorem sum_nan_r {a b : Datum} (h : b.isNaN = true) : a.sum b = none := by cases b <;> simp [Datum.isNaN] at h; cases a <;> rfl
theorem product_nan_l {a b : Datum} (h : a.isNaN = true) : a.product b = none := by cases a <;> simp [Datum.isNaN] at h; rfl
theorem product_nan_r {a b : Datum} (h : b.isNaN = true) : a.product b = none := by cases b <;> simp [Datum.isNaN] at h; cases a <;> rfl
theorem quotient_nan_l {n : Nat} {a b : Datum} (h : a.isNaN = true) : a.quotient n b = none := by cases a <;> simp [Datum.isNaN] at h; rfl
theorem quotient_nan_r {n : Nat} {a b : Datum} (h : b.isNaN = true) : a.quotient n b = none := by cases b <;> simp [Datum.isNaN] at h; cases a <;> rfl
theorem order_nan_l {a b : Datum} (h : a.isNaN = true) : a.order b = none := by cases a <;> simp [Datum.isNaN] at h; rfl
theorem order_nan_r {a b : Datum} (h : b.isNaN = true) : a.order b = none := by cases b <;> simp [Datum.isNaN] at h; cases a <;> rfl
theorem opp_nan {a : Datum} : a.opposite.isNaN = a.isNaN := by cases a <;> rfl

theorem fbits_nan_l {op : BinOp} {k : FloatKind} {x y : Nat} (h : isn k x = true) : fbits op k x y = none := by
  replace h : (k.format.read _).isNaN = true := h
  cases op <;> simp only [fbits, Format.add, Format.sub, Format.mul, Format.div]
  · rw [sum_nan_l h]; rfl
  · rw [sum_nan_l h]; rfl
  · rw [product_nan_l h]; rfl
  · rw [quotient_nan_l h]; rfl
theorem fbits_nan_r {op : BinOp} {k : FloatKind} {x y : Nat} (h : isn k y = true) : fbits op k x y = none := by
  replace h : (k.format.read _).isNaN = true := h
  cases op <;> simp only [fbits, Format.add, Format.sub, Format.mul, Format.div]
  · rw [sum_nan_r h]; rfl
  · rw [sum_nan_r (by rw [opp_nan]; exact h)]; rfl
  · rw [product_nan_r h]; rfl
  · rw [quotient_nan_r h]; rfl
theorem fbits_cn (op : BinOp) (k : FloatKind) (x y : Nat) : fbits op k (cn k x) (cn k y) = fbits op k x y := by
  cases hx : isn k x
  · cases hy : isn k y
    · rw [cn_of_not hx, cn_of_not hy]
    · rw [cn_of hy, fbits_nan_r (isn_qn k), fbits_nan_r hy]
  · rw [cn_of hx, fbits_nan_l (isn_qn k), fbits_nan_l hx]
theorem fbits_notnan {op : BinOp} {k : FloatKind} {x y r : Nat} (h : fbits op k x y = some r) : isn k r = false := by
  have key : ∀ d : Option Datum, (∀ z, d = some z → z.isNaN = false) → d.map k.format.write = some r → isn k r = false := by
    intro d hd hm
    cases d with
    | none => cases hm
    | some z => simp at hm; subst hm; exact write_notnan _ (hd _ rfl)
  cases op <;> simp only [fbits, Format.add, Format.sub, Format.mul, Format.div] at h
  all_goals first
    | exact key _ (fun _ => sum_notnan) h
    | exact key _ (fun _ => product_notnan) h
    | exact key _ (fun _ => quotient_notnan) h
    | cases h
theorem order_cn (k : FloatKind) (x y : Nat) : k.format.order (cn k x) (cn k y) = k.format.order x y := by
  unfold Format.order
  cases hx : isn k x
  · cases hy : isn k y
    · rw [cn_of_not hx, cn_of_not hy]
    · rw [cn_of hy, order_nan_r (show (k.format.read _).isNaN = true from isn_qn k), order_nan_r (show (k.format.read _).isNaN = true from hy)]
  · rw [cn_of hx, order_nan_l (show (k.format.read _).isNaN = true from isn_qn k), order_nan_l (show (k.format.read _).isNaN = true from hx)]
theorem sqrt_cn (k : FloatKind) (x : Nat) : k.format.sqrt (cn k x) = k.format.sqrt x := by
  cases hx : isn k x
  · rw [cn_of_not hx]
  · have : ∀ b, isn k b = true → k.format.sqrt b = none := by
      intro b hb
      unfold Format.sqrt
      have : (k.format.read b).isNaN = true := hb
      cases hd : k.format.read b <;> rw [hd] at this <;> simp [Datum.isNaN] at this
      rfl
    rw [cn_of hx, this _ (isn_qn k), this _ hx]
theorem sqrt_notnan {k : FloatKind} {x r : Nat} (h : k.format.sqrt x = some r) : isn k r = false := by
  unfold Format.sqrt at h
  cases hd : (k.format.read x).root (k.format.fractionBits + 2) with
  | none => rw [hd] at h; cases h
  | some z => rw [hd] at h; simp at h; subst h; exact write_notnan _ (root_notnan hd)
theorem encode_notnan (k : FloatKind) {d : Datum} (h : d.isNaN = false) : isn k (k.encode d) = false := write_notnan _ h

theorem nan_of_rung {k : FloatKind} {s r : Nat} (hs : s < 2) (h1 : 0 < r) (h2 : r < k.format.binade) : isn k (s * k.format.signWeight + k.format.infRung + r) = true := by
  have e0 := k.format.infRung_add_binade
  have h0 : 0 < k.format.signWeight := Nat.two_pow_pos _
  have e : (s * k.format.signWeight + k.format.infRung + r) % k.format.signWeight = k.format.infRung + r := by
    rw [Nat.add_assoc, Nat.mul_comm, Nat.mul_add_mod, Nat.mod_eq_of_lt (by omega)]
  have hb : k.format.binade ≤ k.format.infRung := by cases k <;> decide +kernel
  rw [isn_read]
  unfold Format.read
  simp only [e]
  rw [if_neg (by omega), if_neg (by omega), if_neg (by omega)]
  rfl
theorem cut_nan (k : FloatKind) (q : Question) (hq : (∃ x y, q = .nanBits k x y) ∨ (∃ b, q = .nanConv k b) ∨ (∃ m x y, q = .nanMinMax k m x y)) (t : Nat) :
    isn k (q.cut t) = true ∧ q.forced = false := by
  have key : ∀ v, (match k with | .f32 => (t % 2) * 2 ^ 31 + 0x7f800000 + 1 + (t / 2) % (2 ^ 23 - 1) | .f64 => (t % 2) * 2 ^ 63 + 0x7ff0000000000000 + 1 + (t / 2) % (2 ^ 52 - 1)) = v → isn k v = true := by
    intro v hv
    cases k with
    | f32 =>
      have := nan_of_rung (k := .f32) (s := t % 2) (r := 1 + (t / 2) % (2 ^ 23 - 1)) (Nat.mod_lt _ (by decide)) (by omega) (by
        show _ < 2 ^ 23
        have := Nat.mod_lt (t / 2) (show 0 < 2 ^ 23 - 1 by decide)
        omega)
      rw [show FloatKind.f32.format.signWeight = 2 ^ 31 by decide +kernel, show FloatKind.f32.format.infRung = 0x7f800000 by decide +kernel] at this
      rw [← hv]
      simpa only [← Nat.add_assoc] using this
    | f64 =>
      have := nan_of_rung (k := .f64) (s := t % 2) (r := 1 + (t / 2) % (2 ^ 52 - 1)) (Nat.mod_lt _ (by decide)) (by omega) (by
        show _ < 2 ^ 52
        have := Nat.mod_lt (t / 2) (show 0 < 2 ^ 52 - 1 by decide)
        omega)
      rw [show FloatKind.f64.format.signWeight = 2 ^ 63 by decide +kernel, show FloatKind.f64.format.infRung = 0x7ff0000000000000 by decide +kernel] at this
      rw [← hv]
      simpa only [← Nat.add_assoc] using this
  rcases hq with ⟨x, y, rfl⟩ | ⟨b, rfl⟩ | ⟨m, x, y, rfl⟩ <;> refine ⟨?_, rfl⟩ <;> cases k <;> exact key _ rfl
end

theorem run_choose {q : Question} (h : q.forced = false) (w : World) : (choose q).run P w = .ok (q.cut (w.tape w.drawn q)) { w with drawn := w.drawn + 1 } := by
  simp [choose, Sem.run, h]

/-- The same world but for the count of what has been drawn. -/
def Drw (w w' : World) : Prop := w'.heap = w.heap ∧ w'.os = w.os ∧ w'.tape = w.tape ∧ w'.output = w.output
theorem Drw.refl (w : World) : Drw w w := ⟨rfl, rfl, rfl, rfl⟩
theorem Drw.drew (w : World) (n : Nat) : Drw w { w with drawn := n } := ⟨rfl, rfl, rfl, rfl⟩
theorem Drw.trans {a b c : World} (h : Drw a b) (k : Drw b c) : Drw a c := ⟨k.1.trans h.1, k.2.1.trans h.2.1, k.2.2.1.trans h.2.2.1, k.2.2.2.trans h.2.2.2⟩
theorem Drw.blw (h : Drw w w') (B : Nat) : Blw B w w' := ⟨h.2.1, h.2.2.1, h.2.2.2, by rw [h.1]; exact Nat.le_refl _, fun _ _ => by rw [h.1]⟩
theorem HR.drw (H' : HR B R e h w) (hd : Drw w w') : HR B R e h w' := H'.grow (fun _ _ => by rw [hd.1]) (by rw [hd.1]; exact Nat.le_refl _)

theorem run_far {op : BinOp} (ha : isArith op = true) (k : FloatKind) (x y : Nat) (w : World) :
    ∃ r w', (Op.floatArith op k x y).run P w = .ok (.float k r) w' ∧ cn k r = far op k (cn k x) (cn k y) ∧ Drw w w' := by
  have hred : (Op.floatArith op k x y).run P w = (match fbits op k x y with
    | some r => (pure (.float k r) : Sem Value)
    | none => do pure (.float k (← choose (.nanBits k x y)))).run P w := by
    cases op <;> simp [isArith] at ha <;> rfl
  rw [hred]
  cases hf : fbits op k x y with
  | some r =>
    refine ⟨r, w, rfl, ?_, Drw.refl _⟩
    rw [cn_of_not (fbits_notnan hf)]
    unfold far
    rw [fbits_cn, hf]; rfl
  | none =>
    obtain ⟨h1, h2⟩ := cut_nan k (.nanBits k x y) (.inl ⟨x, y, rfl⟩) (w.tape w.drawn (.nanBits k x y))
    refine ⟨_, _, by simp only [Sem.run_bind, run_choose h2, Result.andThen_ok]; rfl, ?_, Drw.drew _ _⟩
    rw [cn_of h1]
    unfold far
    rw [fbits_cn, hf]; rfl

end Go.AE
