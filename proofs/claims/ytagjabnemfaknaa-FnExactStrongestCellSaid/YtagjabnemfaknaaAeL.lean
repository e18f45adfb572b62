/-
  From the evaluator to a row, for arguments some of which are slices of elements without addresses.
-/
import Derived.Test.YtagjabnemfaknaaAeF
import Derived.DataReads
namespace Go.AE
set_option linter.unusedVariables false
set_option linter.unusedSimpArgs false

/-- A cell of a kind. -/
def OkV (v : Value) : Sc → Prop
  | .i k => ∃ n, v = .int k n ∧ k.has n
  | .f k => ∃ b, v = .float k b ∧ k.has b
  | .b => ∃ t, v = .bool t

def flatF (g : TypeId → Option (List Sc)) (P : Program) : Nat → List Field → Option (List Sc)
  | _, [] => some []
  | off, f :: fs => if f.offset = off then (g f.type).bind fun s => if s.length = P.cellsOf f.type then (flatF g P (off + s.length) fs).map (s ++ ·) else none else none
/-- The cells of an element. -/
def flatS (P : Program) : Nat → TypeId → Option (List Sc)
  | 0, _ => none
  | n + 1, t => match P.underlying t with
    | some (.struct fs) => (flatF (flatS P n) P 0 fs.toList).bind fun scs => if scs.length = P.cellsOf t then some scs else none
    | some (.array k e) => (flatS P n e).bind fun s => if s.length = P.cellsOf e ∧ k * s.length = P.cellsOf t then some (List.replicate k s).flatten else none
    | some (.int k) => some [.i k]
    | some (.float k) => some [.f k]
    | some .bool => some [.b]
    | _ => none

theorem wf_float {k : FloatKind} {b : Nat} (h : (Lit.float k b).wf = true) : k.has b := by cases k <;> (simp only [Lit.wf, decide_eq_true_eq] at h; exact h)
theorem mapM_all {α β : Type} {f : α → Option β} : ∀ {l : List α} {r : List β}, l.mapM f = some r → ∀ x ∈ l, ∃ y, f x = some y
  | [], _, _, x, hx => by cases hx
  | a :: l, r, h, x, hx => by
    rw [List.mapM_cons] at h
    simp only [Option.bind_eq_bind] at h
    obtain ⟨y, hy, h⟩ := Option.bind_eq_some_iff.1 h
    obtain ⟨ys, hys, h⟩ := Option.bind_eq_some_iff.1 h
    rcases List.mem_cons.1 hx with rfl | hx
    · exact ⟨y, hy⟩
    · exact mapM_all hys x hx

section
variable {H : Type} {enc : TypeId × Value → H} {P : Program} {w : World} {base : Nat} {sp : Nat → Bool} {held : Bool}
theorem flatF_ok {g : TypeId → Option (List Sc)} {n : Nat} (hg : ∀ t cs d ps scs, DataW.trod enc P w base sp held n t cs = some (d, ps) → g t = some scs → F2 OkV cs scs) :
    ∀ (fs : List Field) (off : Nat) (scs : List Sc) (cs : List Value), flatF g P off fs = some scs → cs.length = off + scs.length →
      (∀ f ∈ fs, ∃ y, DataW.trod enc P w base sp held n f.type ((cs.drop f.offset).take (P.cellsOf f.type)) = some y) → F2 OkV (cs.drop off) scs
  | [], off, scs, cs, h, hl, _ => by
    simp only [flatF] at h
    cases h
    have : cs.drop off = [] := by simp at hl ⊢; omega
    rw [this]; exact .nil
  | f :: fs, off, scs, cs, h, hl, hall => by
    simp only [flatF] at h
    split at h
    · rename_i ho
      obtain ⟨s, hs, h⟩ := Option.bind_eq_some_iff.1 h
      split at h
      · rename_i hsz
        obtain ⟨r, hr, rfl⟩ := Option.map_eq_some_iff.1 h
        obtain ⟨⟨d, ps⟩, hy⟩ := hall f (by simp)
        have h1 := hg _ _ _ _ _ hy hs
        rw [ho, ← hsz] at h1
        have h2 := flatF_ok hg fs (off + s.length) r cs hr (by simp at hl; omega) (fun x hx => hall x (by simp [hx]))
        have e : cs.drop off = (cs.drop off).take s.length ++ cs.drop (off + s.length) := by
          rw [← List.drop_drop, List.take_append_drop]
        rw [e]
        exact h1.append h2
      · cases h
    · cases h
theorem arr_ok {n k m : Nat} {e : TypeId} {s : List Sc} (hg : ∀ cs d ps, DataW.trod enc P w base sp held n e cs = some (d, ps) → F2 OkV cs s) (hm : s.length = m) (cs : List Value) :
    ∀ (j : Nat), j ≤ k → cs.length = k * m → (∀ i, i < k → ∃ y, DataW.trod enc P w base sp held n e ((cs.drop (i * m)).take m) = some y) → F2 OkV (cs.drop ((k - j) * m)) (List.replicate j s).flatten
  | 0, hj, hl, _ => by
    have : cs.drop ((k - 0) * m) = [] := by simp; omega
    rw [this]; exact .nil
  | j + 1, hj, hl, hall => by
    obtain ⟨⟨d, ps⟩, hy⟩ := hall (k - (j + 1)) (by omega)
    have h1 := hg _ _ _ hy
    have h2 := arr_ok hg hm cs j (by omega) hl hall
    have e1 : (k - j) * m = (k - (j + 1)) * m + m := by
      have : k - j = (k - (j + 1)) + 1 := by omega
      rw [this, Nat.add_mul, Nat.one_mul]
    have e : cs.drop ((k - (j + 1)) * m) = (cs.drop ((k - (j + 1)) * m)).take m ++ cs.drop ((k - j) * m) := by
      rw [e1, ← List.drop_drop, List.take_append_drop]
    rw [e, List.replicate_succ, List.flatten_cons]
    exact h1.append h2
theorem trod_flat : ∀ (m n : Nat) (t : TypeId) (cs : List Value) (d : DataW H) (ps : List MemPlace) (scs : List Sc), DataW.trod enc P w base sp held n t cs = some (d, ps) → flatS P m t = some scs → F2 OkV cs scs
  | 0, n, t, cs, d, ps, scs, _, h => by cases h
  | m + 1, 0, t, cs, d, ps, scs, h, _ => by cases h
  | m + 1, n + 1, t, cs, d, ps, scs, h, hs => by
    simp only [flatS] at hs
    split at hs
    · rename_i fs hu
      obtain ⟨scs', h1, hs⟩ := Option.bind_eq_some_iff.1 hs
      split at hs
      · rename_i hlen
        cases hs
        simp only [DataW.trod, hu] at h
        split at h
        · rename_i hl
          obtain ⟨xs, hxs, _⟩ := Option.map_eq_some_iff.1 h
          have := flatF_ok (fun t cs d ps scs h1 h2 => trod_flat m n t cs d ps scs h1 h2) fs.toList 0 scs cs h1 (by omega) (mapM_all hxs)
          simpa using this
        · cases h
      · cases hs
    · rename_i k e hu
      obtain ⟨s, h1, hs⟩ := Option.bind_eq_some_iff.1 hs
      split at hs
      · rename_i hlen
        cases hs
        simp only [DataW.trod, hu] at h
        split at h
        · rename_i hl
          obtain ⟨xs, hxs, _⟩ := Option.map_eq_some_iff.1 h
          have hall := mapM_all hxs
          have := arr_ok (k := k) (m := P.cellsOf e) (fun cs d ps h => trod_flat m n e cs d ps s h h1) hlen.1 cs k (Nat.le_refl _) (by rw [hl, ← hlen.2, hlen.1]) (fun i hi => hall i (List.mem_range.2 hi))
          simpa using this
        · cases h
      · cases hs
    · rename_i k hu
      cases hs
      unfold DataW.trod at h
      rw [hu] at h
      split at h <;> first | (simp_all; done) | skip
      · split at h
        · rename_i k' x _ _ he hc
          cases he
          obtain ⟨rfl, hw⟩ := hc
          simp only [Lit.wf, Bool.and_eq_true, decide_eq_true_eq] at hw
          exact .cons ⟨_, rfl, hw⟩ .nil
        · cases h
    · rename_i k hu
      cases hs
      unfold DataW.trod at h
      rw [hu] at h
      split at h <;> first | (simp_all; done) | skip
      · split at h
        · rename_i k' x _ _ he hc
          cases he
          obtain ⟨rfl, hw⟩ := hc
          refine .cons ⟨_, rfl, ?_⟩ .nil
          exact wf_float hw
        · cases h
    · rename_i hu
      cases hs
      unfold DataW.trod at h
      rw [hu] at h
      split at h <;> first | (simp_all; done) | skip
      · exact .cons ⟨_, rfl⟩ .nil
    · cases hs
end

/-- An argument: without addresses, a text, or a slice of elements without addresses. -/
def TypedOne (P : Program) (j : Nat) (r : List Value) (t : TypeId) (a : Value) : Prop :=
  ((flatT P t).isSome = true ∧ Typed P t a) ∨ (P.underlying t = some .string ∧ ∃ s : ByteArray, a = .string s ∧ (s.size : Int) ≤ IntKind.i64.max) ∨
  (∃ e s, P.underlying t = some (.slice e) ∧ flatS P P.depth e = some s ∧ s.length = P.cellsOf e ∧
    (a = .slice none 0 0 ∨ ∃ len cap, a = .slice (some ⟨j, 0, some 0⟩) len cap ∧ len ≤ cap ∧ cap ≤ maxLen ∧ F2 OkSc r (List.replicate cap s).flatten))
def TypedAllS (P : Program) : Nat → H → List TypeId → List Value → Prop
  | _, [], [], [] => True
  | k, r :: rs, t :: ts, a :: as => TypedOne P k r t a ∧ TypedAllS P (k + 1) rs ts as
  | _, _, _, _ => False
/-- Types of arguments that can be taken so. -/
def okArg (P : Program) (t : TypeId) : Bool := (flatT P t).isSome || (match P.underlying t with
  | some .string => true
  | some (.slice e) => match flatS P P.depth e with
    | some s => s.length == P.cellsOf e
    | none => false
  | _ => false)

section
variable {P : Program} {e : Emb} {W : World}
theorem canon_of : ∀ {cs : List Value} {scs : List Sc}, F2 OkV cs scs → ∃ l, F2 (CR e) cs l ∧ F2 OkSc l scs
  | [], [], .nil => ⟨[], .nil, .nil⟩
  | v :: cs, s :: scs, .cons h t => by
    obtain ⟨l, h1, h2⟩ := canon_of t
    cases s with
    | i k =>
      obtain ⟨n, rfl, hn⟩ := h
      exact ⟨_ :: l, .cons (.int _ _) h1, .cons ⟨_, rfl, hn⟩ h2⟩
    | f k =>
      obtain ⟨b, rfl, hb⟩ := h
      exact ⟨_ :: l, .cons (.float _ _) h1, .cons ⟨_, rfl, cn_cn _ _, has_cn _ hb⟩ h2⟩
    | b =>
      obtain ⟨b, rfl⟩ := h
      exact ⟨_ :: l, .cons (.bool _) h1, .cons ⟨_, rfl⟩ h2⟩
/-- What an argument that is a slice leads to. -/
def RoOK (e : Emb) (W : World) (v : Value) (r : List Value) : Prop := ∀ a len cap, v = .slice (some a) len cap →
  a.block < W.heap.size ∧ ∃ c el fr, W.heap[a.block]? = some (.cells c el fr) ∧ ∀ o x, r[o]? = some x → ∃ y, c[a.off + o]? = some y ∧ CR e y x

theorem cell_heap {b o : Nat} {v : Value} {c : Array Value} {el : TypeId} {fr : Nat × Nat} (hw : W.heap[b]? = some (.cells c el fr)) (h : W.cell? ⟨b, o, none⟩ = some v) : c[o]? = some v := by
  rw [cell_at _ _ _ _ _ _ hw] at h; exact h
theorem rows_ok {a : Addr} (ha : a.spot = none) {c : Array Value} {el : TypeId} {fr : Nat × Nat} (hw : W.heap[a.block]? = some (.cells c el fr)) {m : Nat} {s : List Sc} (hm : s.length = m) :
    ∀ (n k : Nat), (∀ i, k ≤ i → i < k + n → ∃ cs, W.cells? 0 (a.add (i * m)) m = some cs ∧ F2 OkV cs s) →
      ∃ l, F2 OkSc l (List.replicate n s).flatten ∧ ∀ o x, l[o]? = some x → ∃ y, c[a.off + k * m + o]? = some y ∧ CR e y x
  | 0, k, _ => ⟨[], .nil, fun o x h => by simp at h⟩
  | n + 1, k, h => by
    obtain ⟨cs, hc, hf⟩ := h k (Nat.le_refl _) (by omega)
    obtain ⟨_, hl, hat⟩ := World.cells?_some hc
    obtain ⟨l1, h1, h2⟩ := canon_of (e := e) hf
    obtain ⟨l2, h3, h4⟩ := rows_ok ha hw hm n (k + 1) (fun i hi1 hi2 => h i (by omega) (by omega))
    refine ⟨l1 ++ l2, ?_, ?_⟩
    · rw [List.replicate_succ, List.flatten_cons]; exact h2.append h3
    · intro o x ho
      have hl1 : l1.length = m := by rw [← h1.length, hl]
      by_cases hlt : o < m
      · rw [List.getElem?_append_left (by omega)] at ho
        obtain ⟨y, hy, hr⟩ := h1.get ho
        refine ⟨y, ?_, hr⟩
        have := hat o hlt
        rw [hy, add_none ha, add_none rfl] at this
        exact cell_heap hw this
      · rw [List.getElem?_append_right (by omega)] at ho
        obtain ⟨y, hy, hr⟩ := h4 _ _ ho
        refine ⟨y, ?_, hr⟩
        rw [hl1] at hy
        rw [← hy]
        congr 1
        rw [Nat.add_mul, Nat.one_mul]; omega
theorem one_canon {Hh : Type} {enc : TypeId × Value → Hh} {t : TypeId} {v : Value} {d : DataW Hh} {ps : List MemPlace} {base j : Nat} (ht : okArg P t = true)
    (hW : Value.okWide P W .any base t v) (h : DataW.Trod enc P W 0 (fun _ => true) true t v d ps)
    (hψ : ∀ a len cap, v = .slice (some a) len cap → e.ψ j = some (a.block, a.off)) : ∃ a r, VR e v a ∧ TypedOne P j r t a ∧ RoOK e W v r := by
  unfold okArg at ht
  rw [Bool.or_eq_true] at ht
  by_cases hf : (flatT P t).isSome = true
  · obtain ⟨a, h1, h2⟩ := value_canon (e := e) hf hW
    refine ⟨a, [], h1, .inl ⟨hf, h2⟩, ?_⟩
    rintro p len cap rfl
    exfalso
    unfold Typed at h2
    cases hft : flatT P t with
    | none => rw [hft] at hf; cases hf
    | some q =>
      obtain ⟨b, scs⟩ := q
      rw [hft] at h2
      cases b with
      | true =>
        obtain ⟨l, rfl, _⟩ := h2
        obtain ⟨cs, hh, _⟩ := h1.inv_agg
        cases hh
      | false =>
        obtain ⟨s, _, hs⟩ := h2
        cases s with
        | i k => obtain ⟨n, rfl, _⟩ := hs; have := h1.inv_int; cases this
        | f k => obtain ⟨n, rfl, _⟩ := hs; obtain ⟨_, hh, _⟩ := h1.inv_float; cases hh
        | b => obtain ⟨n, rfl⟩ := hs; have := h1.inv_bool; cases this
  · have ht := ht.resolve_left hf
    split at ht
    · rename_i hu
      unfold Value.okWide at hW
      rw [hu] at hW
      unfold Cell.okWide Cell.ok at hW
      rw [hu] at hW
      cases v <;> simp at hW
      rename_i s
      exact ⟨.string s, [], .base (.cell (.string s)), .inr (.inl ⟨hu, s, rfl, hW⟩), fun a len cap hh => by cases hh⟩
    · rename_i el hu
      split at ht
      · rename_i s hs
        have hsl : s.length = P.cellsOf el := eq_of_beq ht
        unfold Value.okWide at hW
        rw [hu] at hW
        unfold Cell.okWide Cell.ok at hW
        rw [hu] at hW
        cases v <;> simp at hW
        rename_i oa len cap
        cases oa with
        | none =>
          have : len = 0 ∧ cap = 0 := by
            rcases len with _ | len
            · rcases cap with _ | cap
              · exact ⟨rfl, rfl⟩
              · simp at hW
            · simp at hW
          obtain ⟨rfl, rfl⟩ := this
          exact ⟨.slice none 0 0, [], .base (.cell (.nils 0 0)), .inr (.inr ⟨el, s, hu, hs, hsl, .inl rfl⟩), fun a len cap hh => by cases hh⟩
        | some a =>
          simp at hW
          obtain ⟨hlc, hcap, hhas⟩ := hW
          obtain ⟨_, hsp, row, cells, hshape, _⟩ := hhas
          have hblk : ∃ c el' fr, W.heap[a.block]? = some (.cells c el' fr) := by
            unfold World.shape? at hshape
            split at hshape
            · rename_i c el' fr hh; exact ⟨c, el', fr, hh⟩
            · cases hshape
          obtain ⟨c, el', fr, hw⟩ := hblk
          have hlt : a.block < W.heap.size := (Array.getElem?_eq_some_iff.1 hw).1
          obtain ⟨fuel, h⟩ := h
          have hcells : (Value.slice (some a) len cap).cells.toList = [.slice (some a) len cap] := rfl
          rw [hcells] at h
          cases fuel with
          | zero => cases h
          | succ n =>
            simp only [DataW.trod, hu] at h
            split at h
            · rename_i hc
              obtain ⟨elems, he1, h⟩ := Option.bind_eq_some_iff.1 h
              simp only [if_true] at h
              obtain ⟨rest, he2, _⟩ := Option.map_eq_some_iff.1 h
              have a1 := mapM_all he1
              have a2 := mapM_all he2
              have hall : ∀ i, 0 ≤ i → i < 0 + cap → ∃ cs, W.cells? 0 (a.add (i * P.cellsOf el)) (P.cellsOf el) = some cs ∧ F2 OkV cs s := by
                intro i _ hi
                have : ∃ y, (W.cells? 0 (a.add (i * P.cellsOf el)) (P.cellsOf el)).bind (DataW.trod enc P W 0 (fun _ => true) true n el) = some y := by
                  by_cases hil : i < len
                  · exact a1 i (List.mem_range.2 hil)
                  · have := a2 (i - len) (List.mem_range.2 (by omega))
                    rw [show len + (i - len) = i by omega] at this
                    exact this
                obtain ⟨⟨d', ps'⟩, hy⟩ := this
                obtain ⟨cs, hcs, hd⟩ := Option.bind_eq_some_iff.1 hy
                exact ⟨cs, hcs, trod_flat _ _ _ _ _ _ _ hd hs⟩
              obtain ⟨l, hl1, hl2⟩ := rows_ok (e := e) hsp hw hsl cap 0 hall
              refine ⟨.slice (some ⟨j, 0, some 0⟩) len cap, l, .base (.cell (.slice _ _ ?_)), .inr (.inr ⟨el, s, hu, hs, hsl, .inr ⟨len, cap, rfl, hlc, hc.2.2, hl1⟩⟩), ?_⟩
              · unfold AR
                exact ⟨a.off, hψ a len cap rfl, by simp, hsp⟩
              · rintro a' len' cap' hh
                cases hh
                refine ⟨hlt, c, el', fr, hw, fun o x ho => ?_⟩
                have := hl2 o x ho
                simpa using this
            · cases h
      · cases ht
    · cases ht
theorem all_canon {Hh : Type} {enc : TypeId × Value → Hh} {base : Nat} : ∀ (ts : List TypeId) (vs : List Value) (ds : List (DataW Hh)) (ps : List MemPlace) (k : Nat), ts.all (okArg P) = true →
    DataW.TrodAll enc P W 0 (fun _ => true) true ts vs ds ps → (∀ (j : Nat) t v, ts[j]? = some t → vs[j]? = some v → Value.okWide P W .any base t v) →
    (∀ j a len cap, vs[j]? = some (.slice (some a) len cap) → e.ψ (k + j) = some (a.block, a.off)) →
    ∃ as rs, F2 (VR e) vs as ∧ TypedAllS P k rs ts as ∧ rs.length = vs.length ∧ ∀ (j : Nat) v r, vs[j]? = some v → rs[j]? = some r → RoOK e W v r
  | [], [], [], ps, k, _, _, _, _ => ⟨[], [], .nil, trivial, rfl, fun j v r h => by simp at h⟩
  | t :: ts, v :: vs, d :: ds, ps, k, ht, h, hval, hψ => by
    obtain ⟨p, q, h1, h2, rfl⟩ := h
    rw [List.all_cons, Bool.and_eq_true] at ht
    obtain ⟨a, r, ha, hty, hro⟩ := one_canon (e := e) (j := k) ht.1 (hval 0 t v rfl rfl) h1 (fun a len cap hh => by have := hψ 0 a len cap (by rw [hh]; rfl); simpa using this)
    obtain ⟨as, rs, h3, h4, h5, h6⟩ := all_canon (base := base) ts vs ds q (k + 1) ht.2 h2 (fun j t' v' x y => hval (j + 1) t' v' (by simpa using x) (by simpa using y)) (fun j a len cap hh => by
      have := hψ (j + 1) a len cap (by simpa using hh)
      rw [show k + 1 + j = k + (j + 1) by omega]; exact this)
    refine ⟨a :: as, r :: rs, .cons ha h3, ⟨hty, h4⟩, by simp [h5], fun j v' r' x y => ?_⟩
    cases j with
    | zero => simp at x y; subst x; subst y; exact hro
    | succ j => exact h6 j v' r' (by simpa using x) (by simpa using y)
  | [], [], _ :: _, _, _, _, h, _, _ => h.elim
  | [], _ :: _, _, _, _, _, h, _, _ => h.elim
  | _ :: _, [], _, _, _, _, h, _, _ => h.elim
  | _ :: _, _ :: _, [], _, _, _, h, _, _ => h.elim
end

/-- The contract of a law whose arguments may be slices. -/
theorem contractS {P : Program} {H : Type} {enc : TypeId × Value → H} {f : FuncId} {fn : Func} {s : ChangeSpec} (hm : P.follows .mixedOrders = true) (laid : laidOutB P = true)
    (hfn : P.funcs[f]? = some fn) (hbody : fn.body.isNone = false) (hng : (fn.name == "runtime.NumGoroutine") = false)
    (hr : fn.params.toList.all (fun t => P.readableRec t && decide (t < P.types.size)) = true) (hflat : fn.params.toList.all (okArg P) = true)
    {t0 : TypeId} (hrt : fn.resultTypes = #[t0]) (hb : P.underlying t0 = some .bool) (hv : s.vars = [])
    (hspec : ∀ ds : List (DataW H), ds.length = fn.params.toList.length → s.fn H (ds ++ []) = { results := [.lit (.bool true)], args := ds, vars := [] })
    (core : ∀ as R, TypedAllS P 0 R fn.params.toList as → ∃ h' pw sw, EF (trFn P) R f as [] = some (.bool true, h', pw, sw))
    (W : World) (base : Nat) (args : Array Value) (ds gs : List (DataW H)) (before : List MemPlace)
    (hval : ∀ (j : Nat) t v, fn.params[j]? = some t → args[j]? = some v → Value.okWide P W .any base t v)
    (hW : DataW.Whole enc P fn.params.toList s.vars false W args.toList ds gs before) :
    Calls P f args W fun e W' => ∃ v, e = .returned v ∧ s.post enc P fn false true false false W args v W' := by
  obtain ⟨p, q, hA, hV, hps, hfz, hnd⟩ := hW
  have hW0 : DataW.Whole enc P fn.params.toList s.vars false W args.toList ds gs before := ⟨p, q, hA, hV, hps, hfz, hnd⟩
  rw [hv] at hV
  have hgs : gs = [] ∧ q = [] := by
    cases gs with
    | nil => exact ⟨rfl, hV⟩
    | cons => exact hV.elim
  obtain ⟨rfl, rfl⟩ := hgs
  obtain ⟨hl1, hl2⟩ := trodAll_length hA
  have e0 : ∃ e0 : Emb, e0 = ⟨fun _ => none, fun j => match args.toList[j]? with | some (.slice (some a) _ _) => some (a.block, a.off) | _ => none⟩ := ⟨_, rfl⟩
  obtain ⟨e0, he0⟩ := e0
  obtain ⟨as, rs, ha1, ha2, ha3, ha4⟩ := all_canon (e := e0) (W := W) (base := base) fn.params.toList args.toList ds p 0 hflat hA (fun j t v h1 h2 => hval j t v (by simpa using h1) (by simpa using h2)) (fun j a len cap hh => by
    rw [he0]
    simp only [Nat.zero_add, hh])
  obtain ⟨h', pw, sw, hev⟩ := core as rs ha2
  have hHR : HR W.heap.size rs e0 [] W := by
    refine ⟨fun i b h => ?_, fun i j b h => ?_, fun i b bs h => ?_, Nat.le_refl _⟩
    · rw [he0] at h; simp at h
    · rw [he0] at h; simp at h
    · have h' := h
      rw [he0] at h'
      simp only at h'
      split at h'
      · rename_i a len cap hh
        cases h'
        have hi : i < rs.length := by
          have := (List.getElem?_eq_some_iff.1 hh).1
          omega
        obtain ⟨hlt, c, el, fr, hw, hall⟩ := ha4 i _ _ hh (List.getElem?_eq_getElem hi) a len cap rfl
        exact ⟨hlt, _, List.getElem?_eq_getElem hi, c, el, fr, hw, hall⟩
      · cases h'
  have hlt : ∀ x ∈ p, x.block < W.heap.size := fun x hx => hW0.lt x (by rw [hps]; simp [hx])
  have hsnd := EF_sound hm W.heap.size rs f as [] _ _ _ _ hev e0 W args.toList hHR ha1
  have hcalls : Calls P f args W fun x w' => ∃ cv, x = .returned cv ∧ ∃ e', Out W.heap.size rs e0 [] W pw e' h' w' ∧ VR e' cv (.bool true) := by
    rcases hsnd with ⟨cv, w', hr, _⟩ | ⟨_, hc⟩
    · exfalso
      simp only [callFunc, Sem.run_bind, run_program, Result.andThen_ok, hfn, hbody, hng, Bool.false_eq_true, if_false, Sem.run_pure] at hr
      cases hr
    · simpa using hc
  refine hcalls.mono ?_
  rintro x w' ⟨cv, rfl, e', ho, hcv⟩
  have := hcv.inv_bool
  subst this
  refine ⟨_, rfl, ?_⟩
  refine ⟨ds, [], before, [], p, [], hW0, ?_, ?_, ?_, RowKit.Below.frame ho.blw _, fun h => by cases h⟩
  · rw [hspec ds (by rw [hl2]), hrt]
    exact ⟨[], [], RowKit.shut_bool hb true, rfl, rfl⟩
  · rw [hspec ds (by rw [hl2])]
    exact trodAll_stays laid ho.blw hr hA hlt
  · rw [hspec ds (by rw [hl2]), hv]
    rfl
end Go.AE
