/-
  What the evaluator gives is what the run gives: the relation between the evaluator's values and blocks and the world's, and loads and stores.
-/
import Derived.Test.YtagjabnemfaknaaAe1
namespace Go.AE
set_option linter.unusedVariables false
set_option linter.unusedSimpArgs false

/-- Where the evaluator's blocks lie: those that the call has made, and those that came in (with the place of the first cell). -/
structure Emb where
  φ : Nat → Option Nat
  ψ : Nat → Option (Nat × Nat)

def AR (e : Emb) (p q : Addr) : Prop :=
  match q.spot with
  | none => e.φ q.block = some p.block ∧ p.off = q.off ∧ p.spot = none
  | some 0 => ∃ base, e.ψ q.block = some (p.block, base) ∧ p.off = base + q.off ∧ p.spot = none
  | _ => False

structure Emb.Le (e e' : Emb) : Prop where
  ψ : e.ψ = e'.ψ
  φ : ∀ i b, e.φ i = some b → e'.φ i = some b

theorem Emb.Le.refl (e : Emb) : e.Le e := ⟨rfl, fun _ _ h => h⟩
theorem Emb.Le.trans {a b c : Emb} (h : a.Le b) (k : b.Le c) : a.Le c := ⟨h.ψ.trans k.ψ, fun i x hx => k.φ _ _ (h.φ _ _ hx)⟩

inductive CR (e : Emb) : Value → Value → Prop
  | bool (b : Bool) : CR e (.bool b) (.bool b)
  | int (k : IntKind) (n : Int) : CR e (.int k n) (.int k n)
  | float (k : FloatKind) (b : Nat) : CR e (.float k b) (.float k (cn k b))
  | complex (k : FloatKind) (x y : Nat) : CR e (.complex k x y) (.complex k (cn k x) (cn k y))
  | string (s : ByteArray) : CR e (.string s) (.string s)
  | nilp : CR e (.pointer none) (.pointer none)
  | ptr {p q : Addr} : AR e p q → CR e (.pointer (some p)) (.pointer (some q))
  | nils (n c : Nat) : CR e (.slice none n c) (.slice none n c)
  | slice {p q : Addr} (n c : Nat) : AR e p q → CR e (.slice (some p) n c) (.slice (some q) n c)
  | func (f : FuncId) : CR e (.func (.func f) #[] #[]) (.func (.func f) #[] #[])
  | nilFunc : CR e .nilFunc .nilFunc
  | nilIface : CR e .nilIface .nilIface
  | ibool (t : TypeId) (b : Bool) : CR e (.iface t (.bool b)) (.iface t (.bool b))
  | iint (t : TypeId) (k : IntKind) (n : Int) : CR e (.iface t (.int k n)) (.iface t (.int k n))
  | istring (t : TypeId) (s : ByteArray) : CR e (.iface t (.string s)) (.iface t (.string s))

inductive F2 {α β : Type} (r : α → β → Prop) : List α → List β → Prop
  | nil : F2 r [] []
  | cons {a b l m} : r a b → F2 r l m → F2 r (a :: l) (b :: m)

namespace F2
variable {α β : Type} {r s : α → β → Prop} {l : List α} {m : List β}
theorem length (h : F2 r l m) : l.length = m.length := by induction h <;> simp_all
theorem mono (hrs : ∀ a b, r a b → s a b) (h : F2 r l m) : F2 s l m := by
  induction h with
  | nil => exact .nil
  | cons h _ ih => exact .cons (hrs _ _ h) ih
theorem append {l' : List α} {m' : List β} (h : F2 r l m) (h' : F2 r l' m') : F2 r (l ++ l') (m ++ m') := by
  induction h with
  | nil => exact h'
  | cons a _ ih => exact .cons a ih
theorem take (h : F2 r l m) (n : Nat) : F2 r (l.take n) (m.take n) := by
  induction h generalizing n with
  | nil => simp; exact .nil
  | cons a _ ih => cases n with
    | zero => exact .nil
    | succ n => exact .cons a (ih n)
theorem drop (h : F2 r l m) (n : Nat) : F2 r (l.drop n) (m.drop n) := by
  induction h generalizing n with
  | nil => simp; exact .nil
  | cons a t ih => cases n with
    | zero => exact .cons a t
    | succ n => exact ih n
theorem get (h : F2 r l m) {i : Nat} {b : β} (hb : m[i]? = some b) : ∃ a, l[i]? = some a ∧ r a b := by
  induction h generalizing i with
  | nil => simp at hb
  | cons a _ ih => cases i with
    | zero => simp at hb; exact ⟨_, rfl, hb ▸ a⟩
    | succ i => simp at hb ⊢; exact ih hb
theorem get' (h : F2 r l m) {i : Nat} {a : α} (ha : l[i]? = some a) : ∃ b, m[i]? = some b ∧ r a b := by
  induction h generalizing i with
  | nil => simp at ha
  | cons x _ ih => cases i with
    | zero => simp at ha; exact ⟨_, rfl, ha ▸ x⟩
    | succ i => simp at ha ⊢; exact ih ha
theorem of_get (hl : l.length = m.length) (h : ∀ (i : Nat) (b : β), m[i]? = some b → ∃ a, l[i]? = some a ∧ r a b) : F2 r l m := by
  induction l generalizing m with
  | nil => cases m with
    | nil => exact .nil
    | cons => simp at hl
  | cons a l ih => cases m with
    | nil => simp at hl
    | cons b m =>
      obtain ⟨x, hx, hr⟩ := h 0 b rfl
      simp at hx
      exact .cons (hx ▸ hr) (ih (by simpa using hl) fun i y hy => h (i + 1) y (by simpa using hy))
theorem map_self {γ : Type} {f : γ → α} {g : γ → β} (L : List γ) (h : ∀ x ∈ L, r (f x) (g x)) : F2 r (L.map f) (L.map g) := by
  induction L with
  | nil => exact .nil
  | cons a l ih => exact .cons (h a (by simp)) (ih fun x hx => h x (by simp [hx]))
theorem replicate {a : α} {b : β} (h : r a b) (n : Nat) : F2 r (List.replicate n a) (List.replicate n b) := by
  induction n with
  | zero => exact .nil
  | succ n ih => exact .cons h ih
theorem flatten {L : List (List α)} {M : List (List β)} (h : F2 (F2 r) L M) : F2 r L.flatten M.flatten := by
  induction h with
  | nil => exact .nil
  | cons a _ ih => simpa using a.append ih
end F2

inductive V0 (e : Emb) : Value → Value → Prop
  | cell {v a} : CR e v a → V0 e v a
  | agg {cs as : List Value} : F2 (CR e) cs as → V0 e (.agg cs.toArray) (.agg as.toArray)
inductive VR (e : Emb) : Value → Value → Prop
  | base {v a} : V0 e v a → VR e v a
  | tuple {vs as : List Value} : F2 (V0 e) vs as → VR e (.tuple vs.toArray) (.tuple as.toArray)

variable {e e' : Emb}
theorem AR.mono (h : e.Le e') {p q : Addr} (k : AR e p q) : AR e' p q := by
  unfold AR at *
  split at k
  · exact ⟨h.φ _ _ k.1, k.2⟩
  · obtain ⟨b, hb, r⟩ := k; exact ⟨b, h.ψ ▸ hb, r⟩
  · exact k
theorem CR.mono (h : e.Le e') {v a : Value} (k : CR e v a) : CR e' v a := by
  cases k <;> first | (constructor; done) | (constructor; exact AR.mono h ‹_›)
theorem V0.mono (h : e.Le e') {v a : Value} (k : V0 e v a) : V0 e' v a := by
  cases k with
  | cell k => exact .cell (k.mono h)
  | agg k => exact .agg (k.mono fun _ _ => CR.mono h)
theorem VR.mono (h : e.Le e') {v a : Value} (k : VR e v a) : VR e' v a := by
  cases k with
  | base k => exact .base (k.mono h)
  | tuple k => exact .tuple (k.mono fun _ _ => V0.mono h)
theorem VR.undef : VR e Go.undef Go.undef := .tuple (vs := []) (as := []) .nil
theorem CR.vr {v a : Value} (k : CR e v a) : VR e v a := .base (.cell k)

/-- A value without addresses stands under every embedding. -/
theorem CR.free {v a : Value} (hf : free1 a = true) (k : CR e v a) (e' : Emb) : CR e' v a := by
  cases k <;> first | (constructor; done) | (simp [free1] at hf)
theorem V0.free {v a : Value} (hf : free0 a = true) (k : V0 e v a) (e' : Emb) : V0 e' v a := by
  cases k with
  | cell k => cases k <;> first | (simp [free0, free1] at hf; done) | exact .cell (by constructor)
  | @agg cs as k =>
    refine .agg ?_
    simp only [free0, List.all_eq_true] at hf
    have hf' : ∀ x ∈ as, free1 x = true := by simpa using hf
    clear hf
    induction k with
    | nil => exact .nil
    | cons h _ ih => exact .cons (h.free (hf' _ (by simp)) e') (ih fun x hx => hf' x (by simp [hx]))
theorem VR.free {v a : Value} (hf : vfree a = true) (k : VR e v a) (e' : Emb) : VR e' v a := by
  cases k with
  | base k =>
    cases k with
    | cell k => cases k <;> first | (simp [vfree, free0, free1] at hf; done) | exact .base (.cell (by constructor))
    | agg k => exact .base (V0.free (by simpa [vfree] using hf) (.agg k) e')
  | @tuple vs as k =>
    refine .tuple ?_
    have hf' : ∀ x ∈ as, free0 x = true := by simpa [vfree] using hf
    clear hf
    induction k with
    | nil => exact .nil
    | cons h _ ih => exact .cons (h.free (hf' _ (by simp)) e') (ih fun x hx => hf' x (by simp [hx]))

/-- The world holds the evaluator's blocks. -/
structure HR (B : Nat) (R : H) (e : Emb) (h : H) (w : World) : Prop where
  dom : ∀ i b, e.φ i = some b → ∃ cs, h[i]? = some cs ∧ ∃ vs el, w.heap[b]? = some (.cells (List.toArray vs) el (0, 0)) ∧ F2 (CR e) vs cs ∧ B ≤ b
  inj : ∀ i j b, e.φ i = some b → e.φ j = some b → i = j
  ro : ∀ i b base, e.ψ i = some (b, base) → b < B ∧ ∃ cs, R[i]? = some cs ∧ ∃ c el fr, w.heap[b]? = some (.cells c el fr) ∧ ∀ o a, cs[o]? = some a → ∃ v, c[base + o]? = some v ∧ CR e v a
  size : B ≤ w.heap.size

/-- What lies below B is as it was, and so are the streams and the tape. -/
abbrev Blw (B : Nat) (w w' : World) : Prop := RowKit.Below B w w'

variable {B : Nat} {R h : H} {w w' : World} {P : Program}

theorem cell_at (w : World) (b o : Nat) (c : Array Value) (el : TypeId) (fr : Nat × Nat) (h : w.heap[b]? = some (.cells c el fr)) : w.cell? ⟨b, o, none⟩ = c[o]? := by
  simp [World.cell?, h]

/-- What stands at an address of the evaluator's stands at the world's. -/
theorem HR.cell (H' : HR B R e h w) {p q : Addr} (hp : AR e p q) {cs : List Value} (hb : blk R h q = some cs) {o : Nat} {a : Value} (ho : cs[q.off + o]? = some a) :
    p.spot = none ∧ ∃ v, w.cell? ⟨p.block, p.off + o, none⟩ = some v ∧ CR e v a := by
  unfold AR at hp
  unfold blk at hb
  split at hp
  · rename_i hs
    rw [hs] at hb
    obtain ⟨h1, h2, h3⟩ := hp
    obtain ⟨cs', hc, vs, el, hw, hf, _⟩ := H'.dom _ _ h1
    simp only at hb
    rw [hc] at hb
    cases hb
    obtain ⟨v, hv, hr⟩ := hf.get ho
    refine ⟨h3, v, ?_, hr⟩
    rw [cell_at _ _ _ _ _ _ hw, h2]
    simpa using hv
  · rename_i hs
    rw [hs] at hb
    obtain ⟨base, h1, h2, h3⟩ := hp
    obtain ⟨_, cs', hc, c, el, fr, hw, hf⟩ := H'.ro _ _ _ h1
    simp only at hb
    rw [hc] at hb
    cases hb
    obtain ⟨v, hv, hr⟩ := hf _ _ ho
    refine ⟨h3, v, ?_, hr⟩
    rw [cell_at _ _ _ _ _ _ hw, h2, Nat.add_assoc]
    exact hv
  · exact hp.elim

theorem add_none {p : Addr} (h : p.spot = none) (n : Nat) : p.add n = ⟨p.block, p.off + n, none⟩ := by
  obtain ⟨b, o, s⟩ := p
  simp at h
  subst h
  unfold Addr.add
  split
  · simp_all
  · rfl

theorem run_load_cell {a : Addr} {v : Value} (h : w.cell? a = some v) (m : Go.Mode) : (load a m).run P w = .ok v w := by
  simp [load, Sem.run, h]

theorem run_loadCellsFrom {p : Addr} (hs : p.spot = none) : ∀ (n i : Nat) (vs : List Value) (acc : Array Value), vs.length = n →
    (∀ j v, vs[j]? = some v → w.cell? ⟨p.block, p.off + (i + j), none⟩ = some v) → (loadCellsFrom p i n acc).run P w = .ok (acc ++ vs.toArray) w
  | 0, i, vs, acc, hl, _ => by
    have : vs = [] := by simpa using hl
    subst this
    simp [loadCellsFrom, pure, Sem.run]
  | n + 1, i, vs, acc, hl, h => by
    cases vs with
    | nil => simp at hl
    | cons v vs =>
      have h0 : w.cell? (p.add i) = some v := by rw [add_none hs]; simpa using h 0 v rfl
      simp only [loadCellsFrom, Sem.run_bind, run_load_cell h0, Result.andThen_ok]
      rw [run_loadCellsFrom hs n (i + 1) vs (acc.push v) (by simpa using hl) (fun j x hx => by
        have := h (j + 1) x (by simpa using hx)
        rw [show i + 1 + j = i + (j + 1) by omega]; exact this)]
      simp

/-- A read of so many cells. -/
theorem HR.loadCells (H' : HR B R e h w) {p q : Addr} (hp : AR e p q) {n : Nat} {l : List Value} (hr : rd R h q n = some l) :
    ∃ vs : List Value, (Go.loadCells p n).run P w = .ok vs.toArray w ∧ F2 (CR e) vs l ∧ l.length = n := by
  unfold rd at hr
  cases hb : blk R h q with
  | none => simp [hb] at hr
  | some cs =>
    simp only [hb, Option.bind_some] at hr
    split at hr
    · rename_i hle
      cases hr
      have hlen : ((cs.drop q.off).take n).length = n := by simp; omega
      have key : ∀ m, m ≤ n → ∃ vs : List Value, vs.length = m ∧ (∀ j v, vs[j]? = some v → w.cell? ⟨p.block, p.off + (0 + j), none⟩ = some v) ∧ F2 (CR e) vs ((cs.drop q.off).take m) := by
        intro m
        induction m with
        | zero => exact fun _ => ⟨[], rfl, by simp, by simp; exact .nil⟩
        | succ m ih =>
          intro hm
          obtain ⟨vs, hl, hv, hf⟩ := ih (by omega)
          have hlt : q.off + m < cs.length := by omega
          obtain ⟨_, v, hc, hcr⟩ := H'.cell hp hb (o := m) (List.getElem?_eq_getElem hlt)
          refine ⟨vs ++ [v], by simp [hl], ?_, ?_⟩
          · intro j x hx
            by_cases hj : j < vs.length
            · rw [List.getElem?_append_left hj] at hx; exact hv j x hx
            · rw [List.getElem?_append_right (by omega)] at hx
              have : j = m := by
                have := List.getElem?_eq_some_iff.1 hx
                obtain ⟨h1, _⟩ := this
                simp at h1; omega
              subst this
              simp [hl] at hx
              subst hx
              simpa using hc
          · rw [List.take_add_one]
            refine hf.append ?_
            have : (cs.drop q.off)[m]? = some (cs[q.off + m]) := by simp [List.getElem?_drop, List.getElem?_eq_getElem hlt]
            rw [this]
            exact .cons hcr .nil
      obtain ⟨vs, hl, hv, hf⟩ := key n (Nat.le_refl _)
      have hs : p.spot = none := by
        unfold AR at hp
        split at hp
        · exact hp.2.2
        · obtain ⟨_, _, _, h3⟩ := hp; exact h3
        · exact hp.elim
      exact ⟨vs, by simpa [Go.loadCells] using run_loadCellsFrom hs n 0 vs #[] hl hv, hf, hlen⟩
    · cases hr

/-- The world with another row of cells in a block. -/
def setB (w : World) (b : Nat) (c : Array Value) (el : TypeId) : World := { w with heap := w.heap.setIfInBounds b (.cells c el (0, 0)) }

theorem setCell_eq {b o : Nat} {c : Array Value} {el : TypeId} (hw : w.heap[b]? = some (.cells c el (0, 0))) (v : Value) :
    w.setCell ⟨b, o, none⟩ v = setB w b (c.setIfInBounds o v) el := by
  have hlt : b < w.heap.size := (Array.getElem?_eq_some_iff.1 hw).1
  have hget : w.heap[b] = .cells c el (0, 0) := (Array.getElem?_eq_some_iff.1 hw).2
  unfold World.setCell setB
  congr 1
  apply Array.ext
  · simp
  · intro i h1 h2
    simp only [Array.size_modify] at h1
    rw [Array.getElem_modify, Array.getElem_setIfInBounds]
    split
    · rename_i e; subst e; simp [hget]
    · rfl

theorem setB_get {b : Nat} {c c' : Array Value} {el el' : TypeId} {fr : Nat × Nat} (hw : w.heap[b]? = some (.cells c el fr)) : (setB w b c' el').heap[b]? = some (.cells c' el' (0, 0)) := by
  have hlt : b < w.heap.size := (Array.getElem?_eq_some_iff.1 hw).1
  simp [setB, hlt]

theorem setB_ne {b i : Nat} (h : b ≠ i) (c : Array Value) (el : TypeId) : (setB w b c el).heap[i]? = w.heap[i]? := by
  simp [setB, Array.getElem?_setIfInBounds, h]

theorem setB_setB (b : Nat) (c c' : Array Value) (el : TypeId) : setB (setB w b c el) b c' el = setB w b c' el := by
  unfold setB
  congr 1
  apply Array.ext
  · simp
  · intro i h1 h2
    simp [Array.getElem_setIfInBounds]

theorem setB_self {b : Nat} {c : Array Value} {el : TypeId} (hw : w.heap[b]? = some (.cells c el (0, 0))) : setB w b c el = w := by
  unfold setB
  congr 1
  apply Array.ext
  · simp
  · intro i h1 h2
    rw [Array.getElem_setIfInBounds]
    split
    · rename_i e; subst e; exact (Array.getElem?_eq_some_iff.1 hw).2.symm
    · rfl

/-- Values laid from a place on. -/
def layL (cs : List Value) (o : Nat) : List Value → List Value
  | [] => cs
  | v :: vs => layL (cs.set o v) (o + 1) vs

theorem splice_length {cs vs : List Value} {off : Nat} (h : off + vs.length ≤ cs.length) : (splice cs off vs).length = cs.length := by
  simp [splice]; omega

theorem layL_eq : ∀ (vs cs : List Value) (o : Nat), o + vs.length ≤ cs.length → layL cs o vs = splice cs o vs
  | [], cs, o, h => by simp [layL, splice]
  | v :: vs, cs, o, h => by
    have hlt : o < cs.length := by simp at h; omega
    rw [layL, layL_eq vs _ _ (by simp at h ⊢; omega)]
    unfold splice
    rw [List.take_set, List.drop_set]
    have e1 : (cs.take (o + 1)).set o v = cs.take o ++ [v] := by
      rw [List.take_add_one, List.getElem?_eq_getElem hlt]
      have hl : (cs.take o).length = o := by simp; omega
      rw [Option.toList_some, List.set_append_right _ _ (by omega), hl, Nat.sub_self]
      rfl
    rw [e1]
    rw [if_pos (by omega)]
    simp [Nat.add_assoc, Nat.add_comm 1]

theorem one_store {v : Value} (h : one v = true) (a : Addr) {x : Value} (hc : w.cell? a = some x) (hf : w.frozen? a = false) :
    (store a v).run P w = .ok () (w.setCell a v) := by
  cases v <;> simp [one] at h <;> simp [store, Sem.run, hc, hf]

theorem run_storeCells {p : Addr} (hs : p.spot = none) (el : TypeId) : ∀ (vs : List Value) (i : Nat) (w : World) (cs : List Value), w.heap[p.block]? = some (.cells cs.toArray el (0, 0)) →
    p.off + i + vs.length ≤ cs.length → (∀ v ∈ vs, one v = true) →
    (storeCells p vs i).run P w = .ok () (setB w p.block (layL cs (p.off + i) vs).toArray el)
  | [], i, w, cs, hw, hl, h1 => by simp [storeCells, pure, Sem.run, layL, setB_self hw]
  | v :: vs, i, w, cs, hw, hl, h1 => by
    have hlt : p.off + i < cs.length := by simp at hl; omega
    have hc : w.cell? (p.add i) = some cs[p.off + i] := by rw [add_none hs, cell_at _ _ _ _ _ _ hw]; simp [hlt]
    have hfz : w.frozen? (p.add i) = false := by rw [add_none hs]; simp [World.frozen?, hw]
    have hset : w.setCell (p.add i) v = setB w p.block (cs.set (p.off + i) v).toArray el := by
      rw [add_none hs, setCell_eq hw]; simp
    simp only [storeCells, Sem.run_bind, one_store (h1 v (by simp)) _ hc hfz, Result.andThen_ok, hset]
    rw [run_storeCells hs el vs (i + 1) _ (cs.set (p.off + i) v) (setB_get hw) (by simp at hl ⊢; omega) (fun x hx => h1 x (by simp [hx]))]
    rw [setB_setB, layL, Nat.add_assoc]

theorem F2.set {α β : Type} {r : α → β → Prop} {l : List α} {m : List β} (h : F2 r l m) {a : α} {b : β} (hr : r a b) (i : Nat) : F2 r (l.set i a) (m.set i b) := by
  induction h generalizing i with
  | nil => simp; exact .nil
  | cons x t ih => cases i with
    | zero => exact .cons hr t
    | succ i => exact .cons x (ih i)

theorem F2.splice {l m l' m' : List Value} (h : F2 (CR e) l m) (h' : F2 (CR e) l' m') (o : Nat) : F2 (CR e) (Go.AE.splice l o l') (Go.AE.splice m o m') := by
  unfold Go.AE.splice
  rw [h'.length]
  exact (h.take o).append (h'.append (h.drop _))

theorem F2.freeAll {vs as : List Value} (hv : F2 (CR e) vs as) (hf : ∀ x ∈ as, free1 x = true) (e' : Emb) : F2 (CR e') vs as := by
  induction hv with
  | nil => exact .nil
  | cons hh _ ih => exact .cons (hh.free (hf _ (by simp)) _) (ih fun x hx => hf x (by simp [hx]))

theorem CR.one {v a : Value} (h : CR e v a) : one v = Go.AE.one a := by cases h <;> rfl

/-- Restricted to the blocks below L. -/
def Emb.cut (e : Emb) (L : Nat) : Emb := ⟨fun i => if i < L then e.φ i else none, e.ψ⟩

theorem Emb.cut_le (e : Emb) (L : Nat) : (e.cut L).Le e := ⟨rfl, fun i b h => by unfold Emb.cut at h; simp at h; exact h.2⟩
theorem Emb.cut_mono (h : e.Le e') (L : Nat) : (e.cut L).Le (e'.cut L) := ⟨h.ψ, fun i b hb => by
  unfold Emb.cut at *; simp at hb ⊢; exact ⟨hb.1, h.φ _ _ hb.2⟩⟩

/-- A store of the evaluator's and the world's. -/
theorem HR.wr (H' : HR B R e h w) {p q : Addr} (hp : AR e p q) {vs as : List Value} (hv : F2 (CR e) vs as) (h1 : as.all one = true) {h' : H} (hw : wr h q as = some h') :
    ∃ w', (storeCells p vs).run P w = .ok () w' ∧ HR B R e h' w' ∧ Blw B w w' ∧
      (∀ L, (as.all free1 = true ∨ L ≤ q.block) → HR B R (e.cut L) h w → HR B R (e.cut L) h' w') := by
  unfold Go.AE.wr at hw
  unfold AR at hp
  cases hs : q.spot with
  | some n => rw [hs] at hw; cases hw
  | none =>
    rw [hs] at hw hp
    simp only at hw hp
    obtain ⟨hφ, hoff, hsp⟩ := hp
    obtain ⟨cs, hc, vs0, el, hb, hf, hB⟩ := H'.dom _ _ hφ
    rw [hc] at hw
    simp only [Option.bind_some] at hw
    split at hw
    · rename_i hle
      cases hw
      have hlen : vs.length = as.length := hv.length
      have hlen0 : vs0.length = cs.length := hf.length
      have hone : ∀ v ∈ vs, one v = true := by
        intro v hvm
        obtain ⟨i, hi, rfl⟩ := List.getElem_of_mem hvm
        obtain ⟨a, ha, hr⟩ := hv.get' (List.getElem?_eq_getElem hi)
        rw [hr.one]
        exact (List.all_eq_true.1 h1) _ (List.mem_of_getElem? ha)
      have hrun := run_storeCells (P := P) hsp el vs 0 w vs0 hb (by rw [hoff]; omega) hone
      rw [layL_eq _ _ _ (by rw [hoff]; omega)] at hrun
      simp only [Nat.add_zero, hoff] at hrun
      have hqlt : q.block < h.length := (List.getElem?_eq_some_iff.1 hc).1
      refine ⟨_, hrun, ?_, ?_, ?_⟩
      · refine ⟨?_, H'.inj, ?_, ?_⟩
        · intro i b hi
          by_cases hib : i = q.block
          · subst hib
            rw [hφ] at hi; cases hi
            exact ⟨_, by simp [hqlt], _, el, setB_get hb, hf.splice hv _, hB⟩
          · obtain ⟨cs', hc', vs', el', hb', hf', hB'⟩ := H'.dom _ _ hi
            have hne : p.block ≠ b := fun hh => hib (H'.inj _ _ _ hi (hh ▸ hφ))
            exact ⟨cs', by rw [List.getElem?_set_ne (Ne.symm hib)]; exact hc', vs', el', by rw [setB_ne hne]; exact hb', hf', hB'⟩
        · intro i b base hi
          obtain ⟨hlt, cs', hc', c, el', fr, hb', hf'⟩ := H'.ro _ _ _ hi
          exact ⟨hlt, cs', hc', c, el', fr, by rw [setB_ne (by omega)]; exact hb', hf'⟩
        · simpa [setB] using H'.size
      · exact ⟨rfl, rfl, rfl, by simp [setB], fun k hk => setB_ne (by omega) _ _⟩
      · intro L hL HL
        refine ⟨?_, HL.inj, ?_, ?_⟩
        · intro i b hi
          have hi' : i < L ∧ e.φ i = some b := by unfold Emb.cut at hi; simpa using hi
          obtain ⟨cs', hc', vs', el', hb', hf', hB'⟩ := HL.dom _ _ hi
          by_cases hib : i = q.block
          · subst hib
            have hbb : b = p.block := by rw [hφ] at hi'; exact (Option.some.inj hi'.2).symm
            subst hbb
            rw [hc] at hc'; cases hc'
            rw [hb] at hb'
            simp only [Option.some.injEq, Obj.cells.injEq] at hb'
            obtain ⟨he, _⟩ := hb'
            have he : vs0 = vs' := by simpa using congrArg Array.toList he
            subst he
            rcases hL with hL | hL
            · exact ⟨_, by simp [hqlt], _, el, setB_get hb, hf'.splice (e := e.cut L) (hv.freeAll (List.all_eq_true.1 hL) _) _, hB⟩
            · omega
          · have hne : p.block ≠ b := fun hh => hib (H'.inj _ _ _ hi'.2 (hh ▸ hφ))
            exact ⟨cs', by rw [List.getElem?_set_ne (Ne.symm hib)]; exact hc', vs', el', by rw [setB_ne hne]; exact hb', hf', hB'⟩
        · intro i b base hi
          obtain ⟨hlt, cs', hc', c, el', fr, hb', hf'⟩ := HL.ro _ _ _ hi
          exact ⟨hlt, cs', hc', c, el', fr, by rw [setB_ne (by omega)]; exact hb', hf'⟩
        · simpa [setB] using HL.size
    · cases hw

/-- A new block. -/
def Emb.add (e : Emb) (i b : Nat) : Emb := ⟨fun j => if j = i then some b else e.φ j, e.ψ⟩

theorem HR.alloc (H' : HR B R e h w) {vs as : List Value} (hv : F2 (CR e) vs as) (el : TypeId) (hfresh : ∀ i b, e.φ i = some b → i < h.length) :
    HR B R (e.add h.length w.heap.size) (h ++ [as]) (w.alloc (.cells vs.toArray el)) ∧ e.Le (e.add h.length w.heap.size) := by
  have hle : e.Le (e.add h.length w.heap.size) := ⟨rfl, fun i b hi => by
    unfold Emb.add; simp only
    rw [if_neg (by have := hfresh _ _ hi; omega)]; exact hi⟩
  have hold : ∀ b, b < w.heap.size → (w.alloc (.cells vs.toArray el)).heap[b]? = w.heap[b]? := fun b hb => RowKit.Below.heap_alloc _ _ _ hb
  refine ⟨⟨?_, ?_, ?_, ?_⟩, hle⟩
  · intro i b hi
    unfold Emb.add at hi
    simp only at hi
    split at hi
    · rename_i hi0
      subst hi0
      cases hi
      exact ⟨as, by simp, vs, el, by show (w.heap.push _)[w.heap.size]? = _; simp, hv.mono fun _ _ => CR.mono hle, H'.size⟩
    · obtain ⟨cs', hc', vs', el', hb', hf', hB'⟩ := H'.dom _ _ hi
      refine ⟨cs', ?_, vs', el', ?_, hf'.mono fun _ _ => CR.mono hle, hB'⟩
      · rw [List.getElem?_append_left (hfresh _ _ hi)]; exact hc'
      · rw [hold _ (Array.getElem?_eq_some_iff.1 hb').1]; exact hb'
  · intro i j b hi hj
    unfold Emb.add at hi hj
    simp only at hi hj
    have hlt : ∀ k, e.φ k = some b → b < w.heap.size := fun k hk => by
      obtain ⟨_, _, _, _, hb', _⟩ := H'.dom _ _ hk
      exact (Array.getElem?_eq_some_iff.1 hb').1
    split at hi <;> split at hj
    · simp_all
    · cases hi; have := hlt _ hj; omega
    · cases hj; have := hlt _ hi; omega
    · exact H'.inj _ _ _ hi hj
  · intro i b base hi
    obtain ⟨hlt, cs', hc', c, el', fr, hb', hf'⟩ := H'.ro _ _ _ hi
    refine ⟨hlt, cs', hc', c, el', fr, ?_, fun o a ho => ?_⟩
    · rw [hold _ (by have := H'.size; omega)]; exact hb'
    · obtain ⟨v, hv, hr⟩ := hf' _ _ ho
      exact ⟨v, hv, hr.mono hle⟩
  · have := H'.size; show B ≤ (w.heap.push _).size; simp; omega

theorem HR.grow (H' : HR B R e h w) (hh : ∀ b, b < w.heap.size → w'.heap[b]? = w.heap[b]?) (hs : w.heap.size ≤ w'.heap.size) : HR B R e h w' := by
  refine ⟨?_, H'.inj, ?_, Nat.le_trans H'.size hs⟩
  · intro i b hi
    obtain ⟨cs', hc', vs', el', hb', hf', hB'⟩ := H'.dom _ _ hi
    exact ⟨cs', hc', vs', el', by rw [hh _ (Array.getElem?_eq_some_iff.1 hb').1]; exact hb', hf', hB'⟩
  · intro i b base hi
    obtain ⟨hlt, cs', hc', c, el', fr, hb', hf'⟩ := H'.ro _ _ _ hi
    exact ⟨hlt, cs', hc', c, el', fr, by rw [hh _ (Array.getElem?_eq_some_iff.1 hb').1]; exact hb', hf'⟩

end Go.AE
