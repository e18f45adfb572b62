/-
  A statement whose order is open comes to what the evaluator gives, in every order that its edges allow.
-/
import Derived.Test.YtagjabnemfaknaaAeB
namespace Go.AE
set_option linter.unusedVariables false
set_option linter.unusedSimpArgs false

variable {e e' : Emb} {B : Nat} {R h : H} {w w' : World} {P : Program}

theorem HS.put' {kk : Nat → Prop} {key : Nat → Nat} {S : Nat → Prop} {nx : Nat → St} {h0 h : H} (hS : HS kk key S nx h0 h) {j : Nat} {h' : H} (h1 : kk j → h' = (nx j).h ∧ ∀ i, S i → kk i → key i < key j) (h2 : ¬ kk j → h' = h) :
    HS kk key (fun i => S i ∨ i = j) nx h0 h' := by
  by_cases hj : kk j
  · obtain ⟨he, hlt⟩ := h1 hj
    constructor
    · intro i hi hki hmax
      have hij : i = j := by
        rcases hi with hi | hi
        · have := hmax j (.inr rfl) hj; have := hlt i hi hki; omega
        · exact hi
      subst hij; exact he
    · intro hn; exact absurd hj (hn j (.inr rfl))
  · rw [h2 hj]
    constructor
    · intro i hi hki hmax
      have hi' : S i := hi.resolve_right (fun e => hj (e ▸ hki))
      exact hS.1 i hi' hki fun i' hi' hk' => hmax i' (.inl hi') hk'
    · intro hn; exact hS.2 fun i hi => hn i (.inl hi)

theorem Emb.cut_add' {L i : Nat} (hL : L ≤ i) (b : Nat) : (e.add i b).cut L = e.cut L := by
  unfold Emb.add Emb.cut
  congr 1
  funext k
  simp only
  split
  · rw [if_neg (by omega)]
  · rfl

theorem put_h (s : St) (d : Option Nat) (v : Value) : (put s d v).h = s.h := by unfold put; split <;> rfl
theorem put_pw (s : St) (d : Option Nat) (v : Value) : (put s d v).pw = s.pw := by unfold put; split <;> rfl

theorem evOp_kind2F {op : AOp} (h : kindO op = 2) {F F' : Ora} {R : H} {s : St} : evOp F R op s = evOp F' R op s := by
  cases op <;> first | rfl | (simp [kindO] at h)
theorem wp_draw {N id : Nat} {ops : Array Oper} {al : List AOper} {F : Ora} (hm : P.follows .mixedOrders = true) (ht : trOpers P N ops ops.toList = some al) (hok : drawOK ops.toList al = true)
    (hF : SoundF P B R F) (hL : LvsF F) (hT : TruncF F) {s sa sq s' : St} {a : Act} (H' : SR N B R e s a w)
    (h1 : evO F R (sel (masks ops.toList []) al 0) s = some sa) (h2 : evO (quietF F) R (sel (masks ops.toList []) al 1) sa = some sq) (h3 : evO (quietF F) R (sel (masks ops.toList []) al 2) sq = some s')
    {Q : Exit → Act → World → Prop} (hQ : ∀ a' w' e', SR N B R e' s' a' w' → Out B R e s.h w s'.pw e' s'.h w' → Q .normal a' w') : (Code.region id ops true).wp P Q a w := by
  have D0 := dok_of hok
  generalize masks ops.toList [] = m at D0 h1 h2 h3
  obtain ⟨hlen, hget⟩ := trOpers_get ht
  let n := al.length
  let key : Nat → Nat := fun i => clsB m al i * n + i
  let dst : Nat → Option Nat := fun i => (al[i]?).bind (·.dst)
  let kk : Nat → Prop := fun i => kindAt al i = 2
  let O : Nat → Ora := fun _ => quietF F
  have hlt_of : ∀ {i : Nat} {o : AOper}, al[i]? = some o → i < n := fun h => (List.getElem?_eq_some_iff.1 h).1
  have key_cls : ∀ i j, i < n → clsB m al i < clsB m al j → key i < key j := by
    intro i j hi hc
    have : (clsB m al i + 1) * n ≤ clsB m al j * n := Nat.mul_le_mul_right n hc
    rw [Nat.add_mul] at this
    show clsB m al i * n + i < clsB m al j * n + j
    omega
  have key_le : ∀ i j, i < j → j < n → clsB m al i ≤ clsB m al j → key i < key j := by
    intro i j hij hj hc
    rcases Nat.lt_or_eq_of_le hc with hc | hc
    · exact key_cls i j (by omega) hc
    · show clsB m al i * n + i < clsB m al j * n + j
      rw [hc]; omega
  have cls3 : ∀ j, kindAt al j = 3 → clsB m al j = 0 := fun j hj => by unfold clsB; rw [if_pos hj]
  have clsN : ∀ j, kindAt al j ≠ 3 → clsB m al j = if lateB m al j then 2 else 1 := fun j hj => by unfold clsB; rw [if_neg hj]
  have cls2 : ∀ j, kindAt al j = 2 → clsB m al j = 2 := fun j hj => by
    rw [clsN j (by omega), if_pos (late_iff.2 (.inl hj))]
  have dst_of : ∀ {i : Nat} {o : AOper}, al[i]? = some o → dst i = o.dst := fun h => by show (al[_]?).bind _ = _; rw [h]; rfl
  -- two that clash
  have ord : ∀ i j oi oj, al[i]? = some oi → al[j]? = some oj → i < j → clash oi oj = true → key i < key j ∧ (m.getD j 0).testBit i = true := by
    intro i j oi oj hi hj hij hc
    obtain ⟨hb, h3⟩ := D0.clash i j oi oj hi hj hij hc
    refine ⟨key_le i j hij (hlt_of hj) ?_, hb⟩
    have hj3 : kindAt al j ≠ 3 := by rw [kindAt_of hj]; exact h3
    rw [clsN j hj3]
    by_cases hi3 : kindAt al i = 3
    · rw [cls3 i hi3]; omega
    · rw [clsN i hi3]
      by_cases hli : lateB m al i = true
      · have hlj : lateB m al j = true := by
          rw [late_iff]
          rcases late_iff.1 hli with h | ⟨k, hk, hkb, hk2⟩
          · exact .inr ⟨i, hlt_of hi, hb, h⟩
          · exact .inr ⟨k, hk, D0.mok.trans _ _ _ hb hkb, hk2⟩
        simp [hli, hlj]
      · rw [if_neg hli]
        split <;> omega
  -- the new variables
  obtain ⟨val0, idf, _, hfsA, hhA, hpwA, hswA, hvalA, hinjA⟩ := allocs (F := F) (R := R) (dst := dst) (key := key) (fr0 := s.fr) (selI m al 0) s sa (fun _ => False) (fun _ => undef)
    (fun x hx => dst_of (mem_selI.1 hx).1)
    ((selI_sorted m al 0).imp_of_mem fun {x y} hx hy hxy => key_le _ _ hxy (hlt_of (mem_selI.1 hy).1) (by rw [(mem_selI.1 hx).2, (mem_selI.1 hy).2]; exact Nat.le_refl _))
    (fun i hi => hi.elim)
    (fun x hx => by
      obtain ⟨hx1, hx2⟩ := mem_selI.1 hx
      have hk : kindAt al x.2 = 3 := by
        unfold clsB at hx2
        split at hx2
        · assumption
        · split at hx2 <;> cases hx2
      rw [kindAt_of hx1] at hk
      exact ⟨hk, D0.g3 _ _ hx1 hk⟩)
    (fun t => ⟨fun i hi => hi.elim, fun _ => rfl⟩) (by rw [← sel_eq]; exact h1)
  let S : Nat → Prop := fun k => False ∨ ∃ y ∈ selI m al 0, y.2 = k
  have memS : ∀ k, S k ↔ kindAt al k = 3 ∧ k < n := by
    intro k
    constructor
    · rintro (h | ⟨y, hy, rfl⟩)
      · exact h.elim
      · obtain ⟨hx1, hx2⟩ := mem_selI.1 hy
        refine ⟨?_, hlt_of hx1⟩
        unfold clsB at hx2
        split at hx2
        · assumption
        · split at hx2 <;> cases hx2
    · rintro ⟨hk, hn⟩
      exact .inr ⟨(al[k], k), mem_selI.2 ⟨List.getElem?_eq_getElem hn, cls3 k hk⟩, rfl⟩
  let L := selI m al 1 ++ selI m al 2
  have memL : ∀ x, x ∈ L ↔ al[x.2]? = some x.1 ∧ kindAt al x.2 ≠ 3 := by
    intro x
    rw [List.mem_append, mem_selI, mem_selI]
    constructor
    · rintro (⟨h, hc⟩ | ⟨h, hc⟩) <;> refine ⟨h, fun h3 => ?_⟩ <;> rw [cls3 _ h3] at hc <;> cases hc
    · rintro ⟨h, h3⟩
      have := clsN _ h3
      split at this
      · exact .inr ⟨h, this⟩
      · exact .inl ⟨h, this⟩
  have hev : evO' O R L sa = some s' := by
    rw [evO'_append, evO'_eq (F := quietF F) _ _ (fun x hx => rfl), ← sel_eq, h2]
    simp only [Option.bind_some]
    rw [evO'_eq (F := quietF F) _ _ (fun x hx => rfl), ← sel_eq, h3]
  have hOL : ∀ i, LvsF (O i) := fun i => quietF_lvs hL
  have hk1O : ∀ i, O i = quietF F := fun i => rfl
  have hLsorted : L.Pairwise (fun x y => key x.2 < key y.2) := by
    rw [List.pairwise_append]
    refine ⟨(selI_sorted m al 1).imp_of_mem fun {x y} hx hy hxy => key_le _ _ hxy (hlt_of (mem_selI.1 hy).1) (by rw [(mem_selI.1 hx).2, (mem_selI.1 hy).2]; exact Nat.le_refl _),
      (selI_sorted m al 2).imp_of_mem fun {x y} hx hy hxy => key_le _ _ hxy (hlt_of (mem_selI.1 hy).1) (by rw [(mem_selI.1 hx).2, (mem_selI.1 hy).2]; exact Nat.le_refl _), fun x hx y hy => ?_⟩
    exact key_cls _ _ (hlt_of (mem_selI.1 hx).1) (by rw [(mem_selI.1 hx).2, (mem_selI.1 hy).2]; decide)
  have kind_cases : ∀ (op : AOp), kindO op ≠ 3 → kindO op = 0 ∨ kindO op = 1 ∨ kindO op = 2 := fun op h => by have := kindO_le op; omega
  obtain ⟨val, st, nx, hvS, T⟩ := trace (R := R) hOL (dst := dst) (key := key) (kk := kk) (fr0 := s.fr) (h0 := sa.h) L sa s' S val0 (fun _ => sa)
    (fun x hx => dst_of ((memL x).1 hx).1) hLsorted
    (fun i hi x hx => by
      obtain ⟨hi3, hin⟩ := (memS i).1 hi
      obtain ⟨hx1, hx3⟩ := (memL x).1 hx
      refine key_cls _ _ hin ?_
      rw [cls3 i hi3, clsN _ hx3]; split <;> decide)
    (fun x hx hk F' σ v σ1 hop hFO => by
      obtain ⟨hx1, hx3⟩ := (memL x).1 hx
      rw [kindAt_of hx1] at hx3
      have hk' : kindO x.1.op ≠ 2 := by rw [← kindAt_of hx1]; exact hk
      rcases kind_cases _ hx3 with h | h | h
      · rw [(evOp_kind0 h hop).1]
      · have hop' : evOp (quietF F) R x.1.op σ = some (v, σ1) := by rw [← hk1O x.2, ← hFO]; exact hop
        exact (evOp_kind1 hL hT h hop').1
      · exact absurd h hk')
    hfsA ⟨fun i hi hki => absurd hki (by have := ((memS i).1 hi).1; show ¬ kindAt al i = 2; omega), fun _ => rfl⟩ hev
  have hval3 : ∀ j o, al[j]? = some o → kindO o.op = 3 → val j = .pointer (some ⟨idf j, 0, none⟩) ∧ s.h.length ≤ idf j ∧ sa.h[idf j]? = some (zeroOf o.op) := by
    intro j o hj h3
    have hk : kindAt al j = 3 := by rw [kindAt_of hj]; exact h3
    rw [(hvS j ((memS j).2 ⟨hk, hlt_of hj⟩)).1]
    exact hvalA (o, j) (mem_selI.2 ⟨hj, cls3 j hk⟩)
  have hinj : ∀ i j, kindAt al i = 3 → i < n → kindAt al j = 3 → j < n → idf i = idf j → i = j := by
    intro i j hi hin hj hjn hij
    exact hinjA (al[i], i) (mem_selI.2 ⟨List.getElem?_eq_getElem hin, cls3 i hi⟩) (al[j], j) (mem_selI.2 ⟨List.getElem?_eq_getElem hjn, cls3 j hj⟩) hij
  let w0 : World := { w with drawn := w.drawn + 1 }
  have hd0 : Drw w w0 := Drw.drew w _
  let I : (Nat → Prop) → Act → World → Prop := fun D a w => ∃ e1 fr G, DI P N B R ops.toList al dst key val nx idf s.fr s.h sa.h e w0 s'.pw D e1 fr G a w
  refine wp_region_any hm ?_
  have hsz : ops.size = n := by simpa using hlen
  refine any_of (ops := ops) I (n := n) hsz (fun D a w hI i hi => ?_) D0.mok.lt ?_ ?_ ops.size (List.range n) _ a w0 ?_ (by simp [hsz]) (fun i hi _ => List.mem_range.2 hi) ?_
  · obtain ⟨_, _, _, hI⟩ := hI; exact hI.lt i hi
  · -- a step
    intro D a w j o hI ho hjD hdeps K hK
    obtain ⟨e1, fr, G, hI⟩ := hI
    obtain ⟨op, hop, htr⟩ := hget j o (by simpa using ho)
    have hjn : j < n := hlt_of hop
    have hbits : ∀ i, (m.getD j 0).testBit i = true → D i := by
      intro i hb
      have := D0.mok.closed (D := fun i => D i ∨ i = j) (by
        rintro j' i' (h | rfl) hd
        · exact .inl (hI.closed _ _ h hd)
        · exact .inl (hdeps _ hd)) j i (.inr rfl) hb
      rcases this with h | h
      · exact h
      · have := D0.mok.less _ _ hb; omega
    have hbits' : ∀ i, D i → (m.getD i 0).testBit j = true → False := fun i hi hb => hjD (D0.mok.closed (D := D) (fun j i => hI.closed j i) i j hi hb)
    have hclosed' : ∀ j' i', (D j' ∨ j' = j) → Dep ops.toList j' i' → (D i' ∨ i' = j) := by
      rintro j' i' (h | rfl) hd
      · exact .inl (hI.closed _ _ h hd)
      · exact .inl (hdeps _ hd)
    have hSR : ∀ pw sw, SR N B R e1 ⟨fr, G, pw, sw⟩ a w := fun _ _ => ⟨hI.size, hI.def0, hI.tm, hI.hr⟩
    have hkput : ∀ i t, D i → dst i = some t → dst j = some t → key i < key j := by
      intro i t hi hdi hdj
      have hin := hI.lt i hi
      have hoi : al[i]? = some al[i] := List.getElem?_eq_getElem hin
      rw [dst_of hoi] at hdi
      rw [dst_of hop] at hdj
      have hne : i ≠ j := fun h => hjD (h ▸ hi)
      rcases Nat.lt_or_gt_of_ne hne with hlt | hgt
      · exact (ord i j _ _ hoi hop hlt (clash_dst hdi (.inr hdj))).1
      · exact (hbits' i hi (ord j i _ _ hop hoi hgt (clash_dst hdj (.inr hdi))).2).elim
    -- behind the step
    have close : ∀ (σ1 : St) (a' : Act) (w' : World) (e' : Emb), SR N B R e' (put σ1 op.dst (val j)) a' w' → e1.Le e' → Blw B w w' → (∀ L, L ≤ σ1.pw → L ≤ s.h.length → HR B R (e1.cut L) G w → HR B R (e'.cut L) σ1.h w') → (∀ i, i < s.h.length → e'.φ i = e1.φ i) → σ1.fr = fr → s'.pw ≤ σ1.pw →
        (kk j → σ1.h = (nx j).h) → (¬ kk j → σ1.h = G) → G.length ≤ σ1.h.length →
        (∀ i o, al[i]? = some o → kindO o.op = 3 → ¬ (D i ∨ i = j) → e'.φ (idf i) = none ∧ σ1.h[idf i]? = some (zeroOf o.op)) → I (fun i => D i ∨ i = j) a' w' := by
      intro σ1 a' w' e' hS hle hblw hcut hsame hfr hpw hk hnk hGl hun
      refine ⟨e', (put σ1 op.dst (val j)).fr, σ1.h, ⟨?_, hclosed', hS.size, hS.def0, hS.fr, (put_h σ1 _ _) ▸ hS.hr, ?_, ?_, hun, hI.le.trans hle, hI.blw.trans hblw, ?_, ?_, Nat.le_trans hI.glen hGl⟩⟩
      · rintro i (hi | rfl)
        · exact hI.lt i hi
        · exact hjn
      · exact FS.put (hfr ▸ hI.fs) hkput (val j) (fun _ _ => rfl) rfl (dst_of hop)
      · refine hI.hs.put' (fun hkj => ⟨hk hkj, fun i hi hki => ?_⟩) hnk
        have hin := hI.lt i hi
        have hoi : al[i]? = some al[i] := List.getElem?_eq_getElem hin
        have hne : i ≠ j := fun h => hjD (h ▸ hi)
        rcases Nat.lt_or_gt_of_ne hne with hlt | hgt
        · exact key_le i j hlt hjn (by rw [cls2 i hki, cls2 j hkj]; exact Nat.le_refl _)
        · exact (hbits' i hi (D0.k22 j i _ _ hop hoi (by rw [← kindAt_of hoi]; exact hki) (by rw [← kindAt_of hop]; exact hkj) hgt)).elim
      · intro L h1 h2 h3
        exact hcut L (by omega) h2 (hI.cut L h1 h2 h3)
      · intro i hi
        rw [hsame i hi, hI.same i hi]
    unfold wpOp
    rw [ho]
    simp only
    rw [wanted_gok (hSR 0 0) htr]
    simp only
    by_cases hj3 : kindO op.op = 3
    · -- a new variable
      obtain ⟨hv, hge, hz⟩ := hval3 j op hop hj3
      have hg := D0.g3 j op hop hj3
      obtain ⟨hun1, hun2⟩ := hI.un j op hop hj3 hjD
      obtain ⟨htrop, hdst, hdlt⟩ := trOper_parts htr
      have hkj : ¬ kk j := by show ¬ kindAt al j = 2; rw [kindAt_of hop, hj3]; decide
      rw [hg]
      simp only [gok, if_true]
      left
      obtain ⟨z, hzz⟩ : ∃ z, op.op = .alloc z := by
        cases hoo : op.op <;> rw [hoo] at hj3 <;> simp [kindO] at hj3
        exact ⟨_, rfl⟩
      rw [hzz] at htrop hun2
      obtain ⟨t, hot, hzt⟩ := alloc_of htrop
      obtain ⟨zv, hr, _, hc, hok0, _⟩ := run_zero hzt w
      obtain ⟨hh, hle⟩ := hI.hr.alloc_at (okC_all hok0 e1) t hun2 hun1
      unfold Oper.wp
      have hrun : (execOp a.eval o).run P w = .ok (.value (.pointer (some ⟨w.heap.size, 0, none⟩))) (w.alloc (.cells z.toArray t)) := by
        simp only [execOp, hot, Instr.alloc, newVar, Sem.run_bind, hr, Result.andThen_ok, hc, run_newRow]
        rfl
      rw [hrun]
      show K (a.put o.dst _) _
      rw [← hdst]
      refine hK _ _ (close ⟨fr, G, s'.pw, 0⟩ _ _ (e1.add (idf j) w.heap.size) ?_ hle ?_ ?_ ?_ rfl (Nat.le_refl _) (fun h => absurd h hkj) (fun _ => rfl) (Nat.le_refl _) ?_)
      · refine SR.put (s := ⟨fr, G, s'.pw, 0⟩) ⟨hI.size, hI.def0, fun t => (hI.tm t).mono hle, hh⟩ (by rw [hdst]; exact hdlt) ?_
        rw [hv]
        refine (CR.ptr ?_).vr
        unfold AR
        simp [Emb.add]
      · exact (RowKit.Below.refl _ _).alloc hI.hr.size _
      · intro L _ hL HL
        rw [Emb.cut_add' (by omega)]
        exact HL.grow (fun b hb => RowKit.Below.heap_alloc _ _ _ hb) (by show _ ≤ (w.heap.push _).size; simp)
      · intro i hi
        unfold Emb.add
        simp only
        rw [if_neg (by omega)]
      · intro i oi hoi hi3 hiD
        obtain ⟨h1, h2⟩ := hI.un i oi hoi hi3 (fun h => hiD (.inl h))
        refine ⟨?_, h2⟩
        unfold Emb.add
        simp only
        rw [if_neg]
        · exact h1
        · intro h
          exact hiD (.inr (hinj i j (by rw [kindAt_of hoi]; exact hi3) (hlt_of hoi) (by rw [kindAt_of hop]; exact hj3) hjn h))
    · -- any other
      have hjL : (op, j) ∈ L := (memL _).2 ⟨hop, by rw [kindAt_of hop]; exact hj3⟩
      have hTf := T.fr _ hjL
      have hTh := T.ht _ hjL
      have hTo := T.op _ hjL
      have hTp : s'.pw ≤ (nx j).pw := (T.l2 _ hjL).pw
      simp only at hTf hTh hTo
      have hset : ∀ i, (S i ∨ ((∃ y ∈ L, y.2 = i) ∧ key i < key j)) ↔ i < n ∧ key i < key j := by
        intro i
        constructor
        · rintro (h | ⟨⟨y, hy, rfl⟩, hk⟩)
          · obtain ⟨h3', hin⟩ := (memS i).1 h
            refine ⟨hin, key_cls i j hin ?_⟩
            rw [cls3 i h3', clsN j (by rw [kindAt_of hop]; exact hj3)]
            split <;> decide
          · exact ⟨hlt_of ((memL y).1 hy).1, hk⟩
        · rintro ⟨hin, hk⟩
          by_cases h3' : kindAt al i = 3
          · exact .inl ((memS i).2 ⟨h3', hin⟩)
          · exact .inr ⟨⟨(al[i], i), (memL _).2 ⟨List.getElem?_eq_getElem hin, h3'⟩, rfl⟩, hk⟩
      replace hTf := hTf.congr hset
      replace hTh := hTh.congr hset
      have hagree : ∀ t ∈ readsO op, fr t = (st j).fr t := by
        intro t htr'
        refine hI.fs.agree hTf (n := n) hI.lt fun i hdi => ?_
        have hin_of : dst i = some t → ∃ oi, al[i]? = some oi ∧ oi.dst = some t := by
          intro h
          have h : (al[i]?).bind (·.dst) = some t := h
          exact Option.bind_eq_some_iff.1 h
        obtain ⟨oi, hoi, hdi'⟩ := hin_of hdi
        have hin := hlt_of hoi
        constructor
        · intro hi
          refine ⟨hin, ?_⟩
          have hne : i ≠ j := fun h => hjD (h ▸ hi)
          rcases Nat.lt_or_gt_of_ne hne with hlt | hgt
          · exact (ord i j _ _ hoi hop hlt (clash_dst hdi' (.inl htr'))).1
          · exact (hbits' i hi (ord j i _ _ hop hoi hgt (clash_dst' hdi' htr')).2).elim
        · rintro ⟨_, hk⟩
          have hne : i ≠ j := fun h => by rw [h] at hk; omega
          rcases Nat.lt_or_gt_of_ne hne with hlt | hgt
          · exact hbits i (ord i j _ _ hoi hop hlt (clash_dst hdi' (.inl htr'))).2
          · have := (ord j i _ _ hop hoi hgt (clash_dst' hdi' htr')).1; omega
      have hgk : gok fr op.guard = gok (st j).fr op.guard := gok_congr fun t b hg => hagree t (by unfold readsO; rw [hg]; simp)
      have hav : ∀ x ∈ opOperands op.op, av fr x = av (st j).fr x := fun x hx => av_congr fun t ht => hagree t (by
        unfold readsO
        exact List.mem_append_left _ (List.mem_flatMap.2 ⟨x, hx, ht⟩))
      have hG1 : kindO op.op = 1 → G = (st j).h := by
        intro h1'
        have hkj : kindAt al j = 1 := by rw [kindAt_of hop]; exact h1'
        refine hI.hs.agree hTh (n := n) hI.lt fun i hki => ?_
        constructor
        · intro hi
          have hin := hI.lt i hi
          have hoi : al[i]? = some al[i] := List.getElem?_eq_getElem hin
          refine ⟨hin, ?_⟩
          rcases D0.k12 j i _ _ hop hoi (by rw [← kindAt_of hoi]; exact hki) h1' with hb | hb
          · exact (hbits' i hi hb).elim
          · have hlt := D0.mok.less _ _ hb
            have hlate : lateB m al j = true := late_iff.2 (.inr ⟨i, hin, hb, hki⟩)
            refine key_le i j hlt hjn ?_
            rw [cls2 i hki, clsN j (by omega), if_pos hlate]
            exact Nat.le_refl _
        · rintro ⟨hin, hk⟩
          have hoi : al[i]? = some al[i] := List.getElem?_eq_getElem hin
          rcases D0.k12 j i _ _ hop hoi (by rw [← kindAt_of hoi]; exact hki) h1' with hb | hb
          · have hlt := D0.mok.less _ _ hb
            have := key_le j i hlt hin (by rw [cls2 i hki]; exact cls_le m al j)
            omega
          · exact hbits i hb
      have hG2 : kindO op.op = 2 → G = (st j).h := by
        intro h2'
        have hkj : kindAt al j = 2 := by rw [kindAt_of hop]; exact h2'
        refine hI.hs.agree hTh (n := n) hI.lt fun i hki => ?_
        constructor
        · intro hi
          have hin := hI.lt i hi
          have hoi : al[i]? = some al[i] := List.getElem?_eq_getElem hin
          refine ⟨hin, ?_⟩
          have hne : i ≠ j := fun h => hjD (h ▸ hi)
          rcases Nat.lt_or_gt_of_ne hne with hlt | hgt
          · exact key_le i j hlt hjn (by rw [cls2 i hki, cls2 j hkj]; exact Nat.le_refl _)
          · exact (hbits' i hi (D0.k22 j i _ _ hop hoi (by rw [← kindAt_of hoi]; exact hki) h2' hgt)).elim
        · rintro ⟨hin, hk⟩
          have hoi : al[i]? = some al[i] := List.getElem?_eq_getElem hin
          have hne : i ≠ j := fun h => by rw [h] at hk; omega
          rcases Nat.lt_or_gt_of_ne hne with hlt | hgt
          · exact hbits i (D0.k22 i j _ _ hoi hop h2' (by rw [← kindAt_of hoi]; exact hki) hlt)
          · have := key_le j i hgt hin (by rw [cls2 i hki, cls2 j hkj]; exact Nat.le_refl _); omega
      rw [hgk]
      by_cases hg : gok (st j).fr op.guard = true
      · rw [if_pos hg] at hTo ⊢
        left
        have core : ∃ σ σ1, σ.fr = fr ∧ σ.h = G ∧ evOp F R op.op σ = some (val j, σ1) ∧ σ1.fr = fr ∧ σ1.pw = (nx j).pw ∧ (kk j → σ1.h = (nx j).h) ∧ (¬ kk j → σ1.h = G) := by
          have hcg := evOp_congr (fr' := fr) hav hTo
          rcases kind_cases _ hj3 with h0 | h1' | h2'
          · obtain ⟨hs1, hall⟩ := evOp_kind0 h0 hcg
            have hnx : (nx j).pw = (st j).pw := by have := congrArg St.pw hs1; exact this
            exact ⟨⟨fr, G, (st j).pw, 0⟩, ⟨fr, G, (st j).pw, 0⟩, rfl, rfl, hall F G (st j).pw 0, rfl, hnx.symm, fun h => absurd h (by show ¬ kindAt al j = 2; rw [kindAt_of hop, h0]; decide), fun _ => rfl⟩
          · rw [hk1O j] at hcg
            obtain ⟨hh, hev'⟩ := evOp_kind1 hL hT h1' hcg
            have e1' := hG1 h1'
            refine ⟨⟨fr, (st j).h, (st j).pw, (st j).sw⟩, ⟨fr, (nx j).h, (nx j).pw, (nx j).sw⟩, rfl, e1'.symm, hev', rfl, rfl, fun h => absurd h (by show ¬ kindAt al j = 2; rw [kindAt_of hop, h1']; decide), fun _ => ?_⟩
            rw [hh]; exact e1'.symm
          · rw [hk1O j, evOp_kind2F h2' (F := quietF F) (F' := F)] at hcg
            exact ⟨⟨fr, (st j).h, (st j).pw, (st j).sw⟩, ⟨fr, (nx j).h, (nx j).pw, (nx j).sw⟩, rfl, (hG2 h2').symm, hcg, rfl, rfl, fun _ => rfl, fun h => absurd (by show kindAt al j = 2; rw [kindAt_of hop]; exact h2') h⟩
        obtain ⟨σ, σ1, hσf, hσh, hσe, hσ1f, hσ1p, hσk, hσn⟩ := core
        have hSRσ : SR N B R e1 σ a w := ⟨hI.size, hI.def0, hσf ▸ hI.tm, hσh ▸ hI.hr⟩
        refine wp_oper hF hSRσ htr hσe ?_ (by rw [hσ1f, hσf])
        intro a' w' e' hS hO
        rw [hσh] at hO
        have hlv := (evOp_lvs hL hσe).1
        refine hK _ _ (close σ1 a' w' e' hS hO.le hO.blw (fun L h1 h2 h3 => hO.cut L h1 (Nat.le_trans h2 hI.glen) h3) (fun i hi => hO.same i (by have := hI.glen; omega)) hσ1f (by rw [hσ1p]; exact hTp) hσk hσn (by rw [← hσh]; exact hlv.len) ?_)
        intro i oi hoi hi3 hiD
        obtain ⟨hu1, hu2⟩ := hI.un i oi hoi hi3 (fun h => hiD (.inl h))
        have hiG : idf i < G.length := (List.getElem?_eq_some_iff.1 hu2).1
        refine ⟨by rw [hO.same _ hiG]; exact hu1, ?_⟩
        by_cases hkj : kk j
        · have h2' : kindO op.op = 2 := by rw [← kindAt_of hop]; exact hkj
          have := kind2_other h2' hσe hσf hI.tm (trOper_parts htr).1 (i := idf i) (by rw [hσh]; exact hiG) hu1
          rw [this, hσh]; exact hu2
        · rw [hσn hkj]; exact hu2
      · rw [if_neg hg] at hTo
        rw [if_neg hg]
        obtain ⟨hv, hn⟩ := hTo
        obtain ⟨_, hdst, hdlt⟩ := trOper_parts htr
        refine hK _ _ (close ⟨fr, G, (nx j).pw, 0⟩ _ _ e1 ?_ (Emb.Le.refl _) (RowKit.Below.refl _ _) (fun _ _ _ h => h) (fun _ _ => rfl) rfl hTp (fun hkj => ?_) (fun _ => rfl) (Nat.le_refl _) (fun i oi hoi hi3 hiD => hI.un i oi hoi hi3 (fun h => hiD (.inl h))))
        · rw [← hdst]
          exact SR.put (s := ⟨fr, G, (nx j).pw, 0⟩) ⟨hI.size, hI.def0, hI.tm, hI.hr⟩ (by rw [hdst]; exact hdlt) (by rw [hv]; exact VR.undef)
        · show G = (nx j).h
          rw [hn]
          exact hG2 (by rw [← kindAt_of hop]; exact hkj)
  · -- the end
    intro D a w hI hall
    obtain ⟨e1, fr, G, hI⟩ := hI
    have hset : ∀ i, (S i ∨ ∃ y ∈ L, y.2 = i) ↔ i < n := by
      intro i
      constructor
      · rintro (h | ⟨y, hy, rfl⟩)
        · exact ((memS i).1 h).2
        · exact hlt_of ((memL y).1 hy).1
      · intro hin
        by_cases h3' : kindAt al i = 3
        · exact .inl ((memS i).2 ⟨h3', hin⟩)
        · exact .inr ⟨(al[i], i), (memL _).2 ⟨List.getElem?_eq_getElem hin, h3'⟩, rfl⟩
    have hfr : fr = s'.fr := funext fun t => hI.fs.agree (T.frE.congr hset) (n := n) hI.lt fun i hdi => ⟨fun hi => hI.lt i hi, fun hi => hall i hi⟩
    have hh : G = s'.h := hI.hs.agree (T.htE.congr hset) (n := n) hI.lt fun i hki => ⟨fun hi => hI.lt i hi, fun hi => hall i hi⟩
    refine hQ a w e1 ⟨hI.size, hI.def0, hfr ▸ hI.tm, hh ▸ hI.hr⟩ ⟨hI.le, hh ▸ hI.hr, (hd0.blw B).trans hI.blw, fun L h1 h2 h3 => hh ▸ hI.cut L h1 h2 (h3.drw hd0), hI.same⟩
  · simp [hsz]
  · have hD : (fun i => (Array.replicate ops.size false).getD i false = true) = fun _ => False := by
      funext i
      apply propext
      rw [Array.getD_eq_getD_getElem?, Array.getElem?_replicate]
      split <;> simp
    rw [hD]
    have hmore : ∀ e : Emb, HR B R e s.h w → HR B R e sa.h w0 := fun e h => by rw [hhA]; exact (h.drw hd0).more _
    refine ⟨e, s.fr, sa.h, ⟨fun _ h => h.elim, fun _ _ h => h.elim, H'.size, H'.def0, H'.fr, hmore e H'.hr, fun t => ⟨fun i hi => hi.elim, fun _ => rfl⟩, ⟨fun i hi => hi.elim, fun _ => rfl⟩, ?_, Emb.Le.refl _, RowKit.Below.refl _ _, fun L _ _ h3 => hmore _ (h3.drw ⟨rfl, rfl, rfl, rfl⟩), fun _ _ => rfl, by rw [hhA, List.length_append]; omega⟩⟩
    intro i o hi h3 _
    obtain ⟨_, hge, hz⟩ := hval3 i o hi h3
    refine ⟨?_, hz⟩
    cases hc : e.φ (idf i) with
    | none => rfl
    | some b => have := H'.hr.fresh _ _ hc; omega

end Go.AE
