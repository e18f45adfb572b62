/-
  The evaluator's equations in the form in which they are used to go through a function.
-/
import Derived.Test.YtagjabnemfaknaaAeF
import Derived.IntWalk
namespace Go.AE
set_option linter.unusedVariables false
set_option linter.unusedSimpArgs false

/-- An equation that is not to be looked through. -/
theorem nd {α : Type} {a b : α} (h : a = b) : a = b := h

theorem ob_some {α β : Type} (a : α) (f : α → Option β) : (some a).bind f = f a := nd rfl
theorem om_some {α β : Type} (a : α) (f : α → β) : (some a).map f = some (f a) := nd rfl
theorem ob_none {α β : Type} (f : α → Option β) : (none : Option α).bind f = none := nd rfl
theorem om_none {α β : Type} (f : α → β) : (none : Option α).map f = none := nd rfl

section
variable {tab : Nat → Option AFn} {R : H}
theorem EC_skip (s : St) : EC tab R .skip s = some (.nrm, s) := EC_eq _ _
theorem EC_ops (l : List AOper) (s : St) : EC tab R (.ops l) s = (evO (EF tab R) R l s).map fun s => (.nrm, s) := EC_eq _ _
theorem EC_draw (a q e : List AOper) (s : St) : EC tab R (.draw a q e) s = (evO (EF tab R) R a s).bind fun s => (evO (quietF (EF tab R)) R q s).bind fun s => (evO (quietF (EF tab R)) R e s).map fun s => (.nrm, s) := EC_eq _ _
/-- What comes behind a statement. -/
def nextC (f : St → Option (X × St)) : X × St → Option (X × St)
  | (.nrm, s) => f s
  | x => some x
theorem EC_seq (a b : ACode) (s : St) : EC tab R (.seq a b) s = (EC tab R a s).bind (nextC (EC tab R b)) := by
  rw [EC_eq]; simp only [stC]
  congr 1; funext ⟨x, s⟩; cases x <;> rfl
theorem nextC_nrm (f : St → Option (X × St)) (s : St) : nextC f (.nrm, s) = f s := nd rfl
theorem nextC_ret (f : St → Option (X × St)) (s : St) : nextC f (.ret, s) = some (.ret, s) := nd rfl
theorem nextC_brk (f : St → Option (X × St)) (s : St) (i : Nat) : nextC f (.brk i, s) = some (.brk i, s) := nd rfl
def condC (a b : Option (X × St)) : Value → Option (X × St)
  | .bool t => if t then a else b
  | _ => none
theorem EC_cond (c : Operand) (a b : ACode) (s : St) : EC tab R (.cond c a b) s = condC (EC tab R a s) (EC tab R b s) (av s.fr c) := by
  rw [EC_eq]; simp only [stC, condC]
  cases av s.fr c <;> try rfl
  rename_i t; cases t <;> rfl
theorem condC_true (a b : Option (X × St)) : condC a b (.bool true) = a := nd rfl
theorem condC_false (a b : Option (X × St)) : condC a b (.bool false) = b := nd rfl
theorem condC_bool (a b : Option (X × St)) (t : Bool) : condC a b (.bool t) = if t then a else b := nd rfl
def blockC (id : Nat) : X × St → X × St
  | (.brk id', s) => if id' = id then (.nrm, s) else (.brk id', s)
  | x => x
theorem EC_block (id : Nat) (c : ACode) (s : St) : EC tab R (.block id c) s = (EC tab R c s).map (blockC id) := by
  rw [EC_eq]; simp only [stC]
  congr 1; funext ⟨x, s⟩; cases x <;> rfl
theorem blockC_nrm (id : Nat) (s : St) : blockC id (.nrm, s) = (.nrm, s) := nd rfl
theorem blockC_ret (id : Nat) (s : St) : blockC id (.ret, s) = (.ret, s) := nd rfl
theorem blockC_brk (id i : Nat) (s : St) : blockC id (.brk i, s) = if i = id then (.nrm, s) else (.brk i, s) := nd rfl
def loopC (f : St → Option (X × St)) : X × St → Option (X × St)
  | (.nrm, s) => f s
  | x => some x
theorem EC_loop (c : ACode) (s : St) : EC tab R (.loop c) s = (EC tab R c s).bind (loopC (EC tab R (.loop c))) := by
  rw [EC_eq]; simp only [stC]
  congr 1; funext ⟨x, s⟩; cases x <;> rfl
theorem loopC_nrm (f : St → Option (X × St)) (s : St) : loopC f (.nrm, s) = f s := nd rfl
theorem loopC_ret (f : St → Option (X × St)) (s : St) : loopC f (.ret, s) = some (.ret, s) := nd rfl
theorem loopC_brk (f : St → Option (X × St)) (s : St) (i : Nat) : loopC f (.brk i, s) = some (.brk i, s) := nd rfl
theorem EC_exit (i : Nat) (s : St) : EC tab R (.exit i) s = some (.brk i, s) := EC_eq _ _
theorem EC_ret (s : St) : EC tab R .ret s = some (.ret, s) := EC_eq _ _

def endF (R : H) (L : Nat) (res : List ARes) : X × St → Option (Value × H × Nat × Nat)
  | (.brk _, _) => none
  | (_, s) => (resL R s.fr s.h res).bind fun vs => (oneOrTuple vs).map fun v => finish L v s
theorem endF_nrm (R : H) (L : Nat) (res : List ARes) (s : St) : endF R L res (.nrm, s) = (resL R s.fr s.h res).bind fun vs => (oneOrTuple vs).map fun v => finish L v s := nd rfl
theorem endF_ret (R : H) (L : Nat) (res : List ARes) (s : St) : endF R L res (.ret, s) = (resL R s.fr s.h res).bind fun vs => (oneOrTuple vs).map fun v => finish L v s := nd rfl
/-- The frame of a call. -/
def fr0 (as : List Value) : Fr := fun t => as.getD t undef
theorem EF_fn {f : Nat} {np nt : Nat} {res : List ARes} {body : ACode} (ht : tab f = some (.fn np nt res body)) (as : List Value) (h : H) (hl : as.length = np) :
    EF tab R f as h = (EC tab R body ⟨fr0 as, h, h.length, h.length⟩).bind (endF R h.length res) := by
  rw [EF_eq]; simp only [stF, ht, hl, if_true]
  congr 1; funext ⟨x, s⟩; cases x <;> rfl
theorem EF_ext {f : Nat} {e : Ext} (ht : tab f = some (.ext e)) (as : List Value) (h : H) : EF tab R f as h = (extV e as).map fun v => (v, h, h.length, h.length) := by
  rw [EF_eq]; simp only [stF, ht]
end

section
variable {F : Ora} {R : H}
theorem evO_nil (s : St) : evO F R [] s = some s := nd rfl
def stepO (F : Ora) (R : H) (d : Option Nat) (l : List AOper) (p : Value × St) : Option St := evO F R l (put p.2 d p.1)
theorem evO_cons (d : Option Nat) (op : AOp) (l : List AOper) (s : St) : evO F R (⟨d, none, op⟩ :: l) s = (evOp F R op s).bind (stepO F R d l) := nd rfl
def gokV (want : Bool) : Value → Bool
  | .bool b => if want then b else !b
  | _ => false
theorem evO_consG (d : Option Nat) (t : Nat) (b : Bool) (op : AOp) (l : List AOper) (s : St) :
    evO F R (⟨d, some (t, b), op⟩ :: l) s = if gokV b (s.fr t) then (evOp F R op s).bind (stepO F R d l) else evO F R l (put s d undef) := by
  simp only [evO]
  have : gok s.fr (some (t, b)) = gokV b (s.fr t) := by
    simp only [gok, gokV]
    cases s.fr t <;> try rfl
    rename_i x; cases x <;> cases b <;> rfl
  rw [this]; rfl
theorem gokV_undef (b : Bool) : gokV b undef = false := nd rfl
theorem gokV_t (t : Bool) : gokV true (.bool t) = t := nd rfl
theorem gokV_f (t : Bool) : gokV false (.bool t) = !t := nd rfl
theorem stepO_mk (d : Nat) (l : List AOper) (v : Value) (fr : Fr) (h : H) (pw sw : Nat) : stepO F R (some d) l (v, ⟨fr, h, pw, sw⟩) = evO F R l ⟨upd fr d v, h, pw, sw⟩ := nd rfl
theorem stepO_mkN (l : List AOper) (v : Value) (s : St) : stepO F R none l (v, s) = evO F R l s := nd rfl
theorem put_mk (d : Nat) (v : Value) (fr : Fr) (h : H) (pw sw : Nat) : put ⟨fr, h, pw, sw⟩ (some d) v = ⟨upd fr d v, h, pw, sw⟩ := nd rfl
theorem put_none (v : Value) (s : St) : put s none v = s := nd rfl
theorem upd_at (fr : Fr) (t : Nat) (v : Value) (x : Nat) : upd fr t v x = if x = t then v else fr x := nd rfl
theorem fr0_at (as : List Value) (t : Nat) : fr0 as t = as.getD t undef := nd rfl
theorem av_tmp (fr : Fr) (t : Nat) : av fr (.tmp t) = fr t := nd rfl
theorem av_const (fr : Fr) (v : Value) : av fr (.const v) = v := nd rfl
theorem av_func (fr : Fr) (f : FuncId) : av fr (.func f) = .func (.func f) #[] #[] := nd rfl

theorem op_mov (x : Operand) (s : St) : evOp F R (.mov x) s = some (av s.fr x, s) := nd rfl
def pickV (a b : Value) : Value → Option Value
  | .bool t => some (if t then a else b)
  | _ => none
theorem op_pick (c a b : Operand) (s : St) : evOp F R (.pick c a b) s = (pickV (av s.fr a) (av s.fr b) (av s.fr c)).map fun v => (v, s) := by
  simp only [evOp]; cases av s.fr c <;> rfl
theorem pickV_bool (a b : Value) (t : Bool) : pickV a b (.bool t) = some (if t then a else b) := nd rfl
theorem op_alloc (z : List Value) (fr : Fr) (h : H) (pw sw : Nat) : evOp F R (.alloc z) ⟨fr, h, pw, sw⟩ = some (.pointer (some ⟨h.length, 0, none⟩), ⟨fr, h ++ [z], pw, sw⟩) := nd rfl
def boxV : Value → Option (List Value)
  | .tuple _ => none
  | .agg cs => some cs.toList
  | v => some [v]
theorem op_box (x : Operand) (fr : Fr) (h : H) (pw sw : Nat) : evOp F R (.box x) ⟨fr, h, pw, sw⟩ = (boxV (av fr x)).map fun cs => (.pointer (some ⟨h.length, 0, none⟩), ⟨fr, h ++ [cs], pw, sw⟩) := by
  simp only [evOp, boxV, cellsL, new, here]; cases av fr x <;> rfl
theorem boxV_agg (cs : Array Value) : boxV (.agg cs) = some cs.toList := nd rfl
theorem boxV_list (l : List Value) : boxV (.agg l.toArray) = some l := nd rfl
theorem boxV_int (k : IntKind) (n : Int) : boxV (.int k n) = some [.int k n] := nd rfl
theorem boxV_float (k : FloatKind) (n : Nat) : boxV (.float k n) = some [.float k n] := nd rfl
theorem boxV_bool (n : Bool) : boxV (.bool n) = some [.bool n] := nd rfl
theorem boxV_ptr (p : Option Addr) : boxV (.pointer p) = some [.pointer p] := nd rfl
theorem boxV_slice (p : Option Addr) (a b : Nat) : boxV (.slice p a b) = some [.slice p a b] := nd rfl
theorem op_build (z : List Value) (ps : List (Nat × Nat × Operand)) (s : St) : evOp F R (.build z ps) s = (fillL s.fr z ps).map fun cs => (.agg cs.toArray, s) := nd rfl
def makV (bytes : Nat) (z : List Value) (v : Value) (s : St) : Option (Value × St) := match v with
  | .int _ n => if 0 ≤ n ∧ bytes * n ≤ 281474976710656 then some (.slice (some (here s)) n.toNat n.toNat, new s (List.replicate n.toNat z).flatten) else none
  | _ => none
theorem op_make (bytes : Nat) (z : List Value) (x : Operand) (s : St) : evOp F R (.make bytes z x) s = makV bytes z (av s.fr x) s := by
  simp only [evOp, makV]
  cases av s.fr x <;> rfl
theorem makV_nat (bytes : Nat) (z : List Value) (k : IntKind) (n : Nat) (fr : Fr) (h : H) (pw sw : Nat) (hn : bytes * n ≤ 281474976710656) : makV bytes z (.int k (n : Int)) ⟨fr, h, pw, sw⟩ = some (.slice (some ⟨h.length, 0, none⟩) n n, ⟨fr, h ++ [(List.replicate n z).flatten], pw, sw⟩) := by
  unfold makV
  simp only
  rw [if_pos ⟨by omega, by omega⟩]
  rfl
theorem op_bslice (z : List Value) (n : Nat) (ps : List (Nat × Nat × Operand)) (fr : Fr) (h : H) (pw sw : Nat) :
    evOp F R (.bslice z n ps) ⟨fr, h, pw, sw⟩ = (fillL fr z ps).map fun cs => (.slice (some ⟨h.length, 0, none⟩) n n, ⟨fr, h ++ [cs], pw, sw⟩) := nd rfl
theorem fillL_nil (fr : Fr) (z : List Value) : fillL fr z [] = some z := nd rfl
theorem fillL_cons (fr : Fr) (z : List Value) (off size : Nat) (x : Operand) (l : List (Nat × Nat × Operand)) :
    fillL fr z ((off, size, x) :: l) = if (cellsL (av fr x)).length = size ∧ off + size ≤ z.length ∧ (cellsL (av fr x)).all one then fillL fr (splice z off (cellsL (av fr x))) l else none := nd rfl
/-- What a load finds. -/
def ldV (R h : H) (n : Option Nat) : Value → Option Value
  | .pointer (some q) => match n with
    | none => (blk R h q).bind fun cs => cs[q.off]?
    | some n => (rd R h q n).map fun l => .agg l.toArray
  | _ => none
theorem op_load (n : Option Nat) (x : Operand) (fr : Fr) (h : H) (pw sw : Nat) : evOp F R (.load n x) ⟨fr, h, pw, sw⟩ = (ldV R h n (av fr x)).map fun v => (v, ⟨fr, h, pw, sw⟩) := by
  cases n with
  | none =>
    simp only [evOp, ldV]
    cases av fr x <;> try rfl
    rename_i p
    cases p with
    | none => rfl
    | some q =>
      simp only [rd]
      cases blk R h q with
      | none => rfl
      | some cs =>
        simp only [Option.bind_some]
        split
        · rename_i hle
          simp only [Option.bind_some]
          have : ((List.drop q.off cs).take 1)[0]? = cs[q.off]? := by simp
          rw [this]
        · rename_i hle
          rw [List.getElem?_eq_none (by omega)]; rfl
  | some n =>
    simp only [evOp, ldV]
    cases av fr x <;> try rfl
    rename_i p
    cases p <;> simp [Option.map_map, Function.comp_def]
theorem ldV_one (R h : H) (q : Addr) : ldV R h none (.pointer (some q)) = (blk R h q).bind fun cs => cs[q.off]? := nd rfl
theorem ldV_agg (R h : H) (q : Addr) (n : Nat) : ldV R h (some n) (.pointer (some q)) = (rd R h q n).map fun l => .agg l.toArray := nd rfl
def stV (n : Nat) (v : Value) (s : St) : Value → Option (Value × St)
  | .pointer (some q) =>
    if (cellsL v).length = n ∧ (cellsL v).all one then
      (wr s.h q (cellsL v)).map fun h => (undef, { s with h, sw := min s.sw q.block, pw := if (cellsL v).all free1 then s.pw else min s.pw q.block })
    else none
  | _ => none
theorem op_store (n : Nat) (x v : Operand) (s : St) : evOp F R (.store n x v) s = stV n (av s.fr v) s (av s.fr x) := by
  simp only [evOp, stV]
  cases av s.fr x <;> rfl
theorem stV_mk (n : Nat) (v : Value) (fr : Fr) (h : H) (pw sw : Nat) (q : Addr) : stV n v ⟨fr, h, pw, sw⟩ (.pointer (some q)) =
    if (cellsL v).length = n ∧ (cellsL v).all one then (wr h q (cellsL v)).map fun h => (undef, ⟨fr, h, if (cellsL v).all free1 then pw else min pw q.block, min sw q.block⟩) else none := nd rfl
def nilV : Value → Option Value
  | .pointer (some q) => some (.pointer (some q))
  | _ => none
theorem op_nilck (x : Operand) (s : St) : evOp F R (.nilck x) s = (nilV (av s.fr x)).map fun v => (v, s) := by
  simp only [evOp, nilV]
  cases av s.fr x <;> try rfl
  rename_i p; cases p <;> rfl
theorem nilV_ptr (q : Addr) : nilV (.pointer (some q)) = some (.pointer (some q)) := nd rfl
theorem op_bin (op : BinOp) (x y : Operand) (s : St) : evOp F R (.bin op x y) s = (binV op (av s.fr x) (av s.fr y)).map fun v => (v, s) := nd rfl
def eqbV (ne : Bool) : Value → Value → Option Value
  | .bool a, .bool b => some (.bool (if ne then !(a == b) else a == b))
  | _, _ => none
theorem op_eqb (ne : Bool) (x y : Operand) (s : St) : evOp F R (.eqb ne x y) s = (eqbV ne (av s.fr x) (av s.fr y)).map fun v => (v, s) := by
  simp only [evOp, eqbV]
  cases av s.fr x <;> cases av s.fr y <;> rfl
theorem eqbV_bool (ne a b : Bool) : eqbV ne (.bool a) (.bool b) = some (.bool (if ne then !(a == b) else a == b)) := nd rfl
theorem op_un (op : UnOp) (x : Operand) (s : St) : evOp F R (.un op x) s = (unV op (av s.fr x)).map fun v => (v, s) := nd rfl
theorem unV_not (b : Bool) : unV .not (.bool b) = some (.bool !b) := nd rfl
theorem op_conv (c : Cv) (x : Operand) (s : St) : evOp F R (.conv c x) s = (cvV c (av s.fr x)).map fun v => (v, s) := nd rfl
def fldV (off : Nat) : Value → Option Value
  | .pointer (some q) => some (.pointer (some (addA q off)))
  | _ => none
theorem op_fieldA (off : Nat) (x : Operand) (s : St) : evOp F R (.fieldA off x) s = (fldV off (av s.fr x)).map fun v => (v, s) := by
  simp only [evOp, fldV]
  cases av s.fr x <;> try rfl
  rename_i p; cases p <;> rfl
theorem fldV_ptr (off : Nat) (b o : Nat) (sp : Option Nat) : fldV off (.pointer (some ⟨b, o, sp⟩)) = some (.pointer (some ⟨b, o + off, sp⟩)) := nd rfl
def idxAV (len size : Nat) : Value → Value → Option Value
  | .pointer (some q), .int _ n => if 0 ≤ n ∧ n < len then some (.pointer (some (addA q (n.toNat * size)))) else none
  | _, _ => none
theorem op_idxA (len size : Nat) (x i : Operand) (s : St) : evOp F R (.idxA len size x i) s = (idxAV len size (av s.fr x) (av s.fr i)).map fun v => (v, s) := by
  simp only [evOp, idxAV]
  cases av s.fr x <;> try rfl
  rename_i p; cases p <;> try rfl
  cases av s.fr i <;> try rfl
  simp only; split <;> rfl
theorem idxAV_nat (len size b o : Nat) (sp : Option Nat) (k : IntKind) (i : Nat) : idxAV len size (.pointer (some ⟨b, o, sp⟩)) (.int k i) = if i < len then some (.pointer (some ⟨b, o + i * size, sp⟩)) else none := by
  simp only [idxAV, addA]
  by_cases h : i < len
  · rw [if_pos h, if_pos (by omega)]; simp
  · rw [if_neg h, if_neg (by omega)]
theorem idxAV_int (len size b o : Nat) (sp : Option Nat) (k : IntKind) (i : Int) : idxAV len size (.pointer (some ⟨b, o, sp⟩)) (.int k i) = if 0 ≤ i ∧ i.toNat < len then some (.pointer (some ⟨b, o + i.toNat * size, sp⟩)) else none := by
  simp only [idxAV, addA]
  by_cases h : 0 ≤ i ∧ i < len
  · rw [if_pos h, if_pos (by omega)]
  · rw [if_neg h, if_neg (by omega)]
def idxSV (size : Nat) : Value → Value → Option Value
  | .slice (some q) len _, .int _ n => if 0 ≤ n ∧ n < len then some (.pointer (some (addA q (n.toNat * size)))) else none
  | _, _ => none
theorem op_idxS (size : Nat) (x i : Operand) (s : St) : evOp F R (.idxS size x i) s = (idxSV size (av s.fr x) (av s.fr i)).map fun v => (v, s) := by
  simp only [evOp, idxSV]
  cases av s.fr x <;> try rfl
  rename_i p _ _; cases p <;> try rfl
  cases av s.fr i <;> try rfl
  simp only; split <;> rfl
theorem idxSV_nat (size b o len cap : Nat) (sp : Option Nat) (k : IntKind) (i : Nat) : idxSV size (.slice (some ⟨b, o, sp⟩) len cap) (.int k i) = if i < len then some (.pointer (some ⟨b, o + i * size, sp⟩)) else none := by
  simp only [idxSV, addA]
  by_cases h : i < len
  · rw [if_pos h, if_pos (by omega)]; simp
  · rw [if_neg h, if_neg (by omega)]
theorem idxSV_int (size b o len cap : Nat) (sp : Option Nat) (k : IntKind) (i : Int) : idxSV size (.slice (some ⟨b, o, sp⟩) len cap) (.int k i) = if 0 ≤ i ∧ i.toNat < len then some (.pointer (some ⟨b, o + i.toNat * size, sp⟩)) else none := by
  simp only [idxSV, addA]
  by_cases h : 0 ≤ i ∧ i < len
  · rw [if_pos h, if_pos (by omega)]
  · rw [if_neg h, if_neg (by omega)]
def extrV (i : Nat) : Value → Option Value
  | .tuple vs => vs[i]?
  | _ => none
theorem op_extract (i : Nat) (x : Operand) (s : St) : evOp F R (.extract i x) s = (extrV i (av s.fr x)).map fun v => (v, s) := by
  simp only [evOp, extrV]
  cases av s.fr x <;> rfl
theorem extrV_tuple (i : Nat) (vs : List Value) : extrV i (.tuple vs.toArray) = vs[i]? := by simp [extrV]
def idxVV (len size : Nat) (agg : Bool) : Value → Value → Option Value
  | .agg cs, .int _ n => if 0 ≤ n ∧ n < len ∧ (n.toNat + 1) * size ≤ cs.size then
      (if agg then some (.agg ((cs.toList.drop (n.toNat * size)).take size).toArray) else cs.toList[n.toNat * size]?) else none
  | _, _ => none
theorem op_idxV (len size : Nat) (agg : Bool) (x i : Operand) (s : St) : evOp F R (.idxV len size agg x i) s = (idxVV len size agg (av s.fr x) (av s.fr i)).map fun v => (v, s) := by
  simp only [evOp, idxVV]
  cases av s.fr x <;> try rfl
  cases av s.fr i <;> try rfl
  simp only
  split
  · cases agg <;> simp
  · rfl
def fldVV (off size : Nat) (agg : Bool) : Value → Option Value
  | .agg cs => if off + size ≤ cs.size then
      (if agg then some (.agg ((cs.toList.drop off).take size).toArray) else cs.toList[off]?) else none
  | _ => none
theorem op_fieldV (off size : Nat) (agg : Bool) (x : Operand) (s : St) : evOp F R (.fieldV off size agg x) s = (fldVV off size agg (av s.fr x)).map fun v => (v, s) := by
  simp only [evOp, fldVV]
  cases av s.fr x <;> try rfl
  simp only
  split
  · cases agg <;> simp
  · rfl
def lenV (str : Bool) : Value → Option Value
  | .slice _ n _ => if str then none else some (.int .i64 n)
  | .string b => if str then some (.int .i64 b.size) else none
  | _ => none
theorem op_len (str : Bool) (x : Operand) (s : St) : evOp F R (.len str x) s = (lenV str (av s.fr x)).map fun v => (v, s) := by
  cases str <;> simp only [evOp, lenV] <;> cases av s.fr x <;> rfl
theorem lenV_slice (p : Option Addr) (n c : Nat) : lenV false (.slice p n c) = some (.int .i64 n) := nd rfl
theorem op_mm (b : Bool) (x : Operand) (l : List Operand) (s : St) : evOp F R (.mm b (x :: l)) s = (mmL b (av s.fr x) (l.map (av s.fr))).map fun v => (v, s) := nd rfl
def backF (s : St) : Value × H × Nat × Nat → Value × St
  | (v, h, pw, sw) => (v, ⟨s.fr, h, min s.pw pw, min s.sw sw⟩)
theorem op_call (g : FuncId) (args : List Operand) (s : St) : evOp F R (.call (.func g) args) s = (F g (args.map (av s.fr)) s.h).map (backF s) := by
  rw [evOp_call]
  rfl
theorem backF_mk (v : Value) (fr : Fr) (h h' : H) (pw sw pw' sw' : Nat) : backF ⟨fr, h, pw, sw⟩ (v, h', pw', sw') = (v, ⟨fr, h', min pw pw', min sw sw'⟩) := nd rfl
/-- A call that is quiet. -/
theorem quietF_of {f : Nat} {as : List Value} {h h' : H} {v : Value} {pw sw : Nat} (hf : F f as h = some (v, h', pw, sw)) (h1 : h.length ≤ pw) (h2 : h.length ≤ sw) (h3 : vfree v = true) : quietF F f as h = some (v, h, pw, sw) := by
  unfold quietF
  rw [hf, Option.bind_some]
  simp only
  rw [if_pos ⟨h1, h2, h3⟩]
end

/-! ### Numbers -/
theorem bi_cmp_eql (k : IntKind) (a b : Int) : binV .eql (.int k a) (.int k b) = some (.bool (a == b)) := by simp [binV, binOp, Op.intCmp]; rfl
theorem bi_cmp_neq (k : IntKind) (a b : Int) : binV .neq (.int k a) (.int k b) = some (.bool (a != b)) := by simp [binV, binOp, Op.intCmp]; rfl
theorem bi_cmp_lss (k : IntKind) (a b : Int) : binV .lss (.int k a) (.int k b) = some (.bool (decide (a < b))) := by simp [binV, binOp, Op.intCmp]; rfl
theorem bi_cmp_leq (k : IntKind) (a b : Int) : binV .leq (.int k a) (.int k b) = some (.bool (decide (a ≤ b))) := by simp [binV, binOp, Op.intCmp]; rfl
theorem bi_cmp_gtr (k : IntKind) (a b : Int) : binV .gtr (.int k a) (.int k b) = some (.bool (decide (b < a))) := by simp [binV, binOp, Op.intCmp]; rfl
theorem bi_cmp_geq (k : IntKind) (a b : Int) : binV .geq (.int k a) (.int k b) = some (.bool (decide (b ≤ a))) := by simp [binV, binOp, Op.intCmp]; rfl
theorem bi_add (k : IntKind) (a b : Int) : binV .add (.int k a) (.int k b) = some (.int k (k.wrap (a + b))) := by simp [binV, binOp, Op.intArith]; rfl
theorem bi_sub (k : IntKind) (a b : Int) : binV .sub (.int k a) (.int k b) = some (.int k (k.wrap (a - b))) := by simp [binV, binOp, Op.intArith]; rfl
theorem bi_mul (k : IntKind) (a b : Int) : binV .mul (.int k a) (.int k b) = some (.int k (k.wrap (a * b))) := by simp [binV, binOp, Op.intArith]; rfl
theorem bf_add (k : FloatKind) (a b : Nat) : binV .add (.float k a) (.float k b) = some (.float k (far .add k a b)) := by simp [binV, isArith]
theorem bf_sub (k : FloatKind) (a b : Nat) : binV .sub (.float k a) (.float k b) = some (.float k (far .sub k a b)) := by simp [binV, isArith]
theorem bf_mul (k : FloatKind) (a b : Nat) : binV .mul (.float k a) (.float k b) = some (.float k (far .mul k a b)) := by simp [binV, isArith]
theorem bf_quo (k : FloatKind) (a b : Nat) : binV .quo (.float k a) (.float k b) = some (.float k (far .quo k a b)) := by simp [binV, isArith]
theorem bf_eql (k : FloatKind) (a b : Nat) : binV .eql (.float k a) (.float k b) = some (.bool (k.format.order a b == some .eq)) := by simp [binV, isArith, Op.floatCmp]; rfl
theorem bf_neq (k : FloatKind) (a b : Nat) : binV .neq (.float k a) (.float k b) = some (.bool (k.format.order a b != some .eq)) := by simp [binV, isArith, Op.floatCmp]; rfl
theorem bf_lss (k : FloatKind) (a b : Nat) : binV .lss (.float k a) (.float k b) = some (.bool (k.format.order a b == some .lt)) := by simp [binV, isArith, Op.floatCmp]; rfl
theorem bf_leq (k : FloatKind) (a b : Nat) : binV .leq (.float k a) (.float k b) = some (.bool (k.format.order a b == some .lt || k.format.order a b == some .eq)) := by simp [binV, isArith, Op.floatCmp]; rfl
theorem bf_gtr (k : FloatKind) (a b : Nat) : binV .gtr (.float k a) (.float k b) = some (.bool (k.format.order a b == some .gt)) := by simp [binV, isArith, Op.floatCmp]; rfl
theorem bf_geq (k : FloatKind) (a b : Nat) : binV .geq (.float k a) (.float k b) = some (.bool (k.format.order a b == some .gt || k.format.order a b == some .eq)) := by simp [binV, isArith, Op.floatCmp]; rfl

theorem nat_nn (n : Nat) : (0 ≤ (n : Int)) = True := eq_true (by omega)
theorem nat_tn (n : Nat) : ((n : Int)).toNat = n := nd rfl
theorem wrap_lit (n : Int) (h0 : 0 ≤ n) (h1 : n ≤ 1000000) : IntKind.i64.wrap n = n := by rw [IntKind.wrap_i64]; omega
theorem wrap_succ (i : Nat) (h : i < 1000000) : IntKind.i64.wrap ((i : Int) + 1) = ((i + 1 : Nat) : Int) := by
  rw [wrap_lit _ (by omega) (by omega)]; omega
theorem quietC_eq {F : Ora} (f : Nat) (as : List Value) (h : H) : quietF F f as h = (F f as h).bind fun p => if h.length ≤ p.2.2.1 ∧ h.length ≤ p.2.2.2 ∧ vfree p.1 = true then some (p.1, h, p.2.2.1, p.2.2.2) else none := by
  unfold quietF
  congr 1

/-! ### The blocks: those that came in, and the call's own -/
def hp (h0 own : H) : H := h0 ++ own
theorem hp_start (h : H) : h = hp h [] := by simp [hp]
theorem hp_push (h0 own : H) (c : List Value) : hp h0 own ++ [c] = hp h0 (own ++ [c]) := by simp [hp]
theorem hp_len (h0 own : H) : (hp h0 own).length = h0.length + own.length := by simp [hp]
theorem hp_hp (h0 a b : H) : hp (hp h0 a) b = hp h0 (a ++ b) := by simp [hp]
theorem hp_take (h0 own : H) : (hp h0 own).take h0.length = h0 := by simp [hp]
theorem hp_take' (h0 own : H) (n : Nat) : (hp h0 own).take (h0.length + n) = hp h0 (own.take n) := by simp [hp, List.take_length_add_append]
theorem blk_own (R h0 own : H) (k off : Nat) : blk R (hp h0 own) ⟨h0.length + k, off, none⟩ = own[k]? := by
  simp only [blk, hp]
  rw [List.getElem?_append_right (by omega)]
  congr 1; omega
theorem blk_own0 (R h0 own : H) (off : Nat) : blk R (hp h0 own) ⟨h0.length, off, none⟩ = own[0]? := by
  have := blk_own R h0 own 0 off
  simpa using this
theorem hp_get (h0 own : H) (k : Nat) : (hp h0 own)[h0.length + k]? = own[k]? := by
  simp only [hp]
  rw [List.getElem?_append_right (by omega)]
  congr 1; omega
theorem hp_get0 (h0 own : H) : (hp h0 own)[h0.length]? = own[0]? := hp_get h0 own 0
theorem hp_old {h0 : H} (own : H) {b : Nat} {cs : List Value} (h : h0[b]? = some cs) : (hp h0 own)[b]? = some cs := by
  have hlt : b < h0.length := (List.getElem?_eq_some_iff.1 h).1
  simp [hp, List.getElem?_append_left hlt, h]
theorem blk_old {R h0 own : H} {b off : Nat} {cs : List Value} (h : h0[b]? = some cs) : blk R (hp h0 own) ⟨b, off, none⟩ = some cs := by
  have hlt : b < h0.length := (List.getElem?_eq_some_iff.1 h).1
  simp [blk, hp, List.getElem?_append_left hlt, h]
theorem wr_own (h0 own : H) (k off : Nat) (vs : List Value) : wr (hp h0 own) ⟨h0.length + k, off, none⟩ vs = (own[k]?).bind fun cs => if off + vs.length ≤ cs.length then some (hp h0 (own.set k (splice cs off vs))) else none := by
  simp [wr, hp, List.getElem?_append_right, List.set_append_right]
theorem wr_own0 (h0 own : H) (off : Nat) (vs : List Value) : wr (hp h0 own) ⟨h0.length, off, none⟩ vs = (own[0]?).bind fun cs => if off + vs.length ≤ cs.length then some (hp h0 (own.set 0 (splice cs off vs))) else none := by
  have := wr_own h0 own 0 off vs
  simpa using this
theorem min_own (a k : Nat) : min a (a + k) = a := Nat.min_eq_left (Nat.le_add_right _ _)
theorem rd_def (R h : H) (q : Addr) (n : Nat) : rd R h q n = (blk R h q).bind fun cs => if q.off + n ≤ cs.length then some ((cs.drop q.off).take n) else none := nd rfl
theorem finish_own (v : Value) (fr : Fr) (h0 own : H) (sw : Nat) : finish h0.length v ⟨fr, hp h0 own, h0.length, sw⟩ = if vfree v = true then (v, h0, h0.length, sw) else (v, hp h0 own, h0.length, sw) := by
  by_cases hv : vfree v = true
  · simp [finish, hv, hp_take]
  · simp [finish, hv]
theorem vfree_bool (b : Bool) : vfree (.bool b) = true := nd rfl
theorem vfree_int (k : IntKind) (b : Int) : vfree (.int k b) = true := nd rfl
theorem vfree_float (k : FloatKind) (b : Nat) : vfree (.float k b) = true := nd rfl
theorem vfree_agg (l : List Value) : vfree (.agg l.toArray) = l.all free1 := by simp [vfree, free0]
theorem vfree_tuple (l : List Value) : vfree (.tuple l.toArray) = l.all free0 := by simp [vfree]
theorem free1_bool (b : Bool) : free1 (.bool b) = true := nd rfl
theorem free1_int (k : IntKind) (b : Int) : free1 (.int k b) = true := nd rfl
theorem free1_float (k : FloatKind) (b : Nat) : free1 (.float k b) = true := nd rfl
theorem free0_bool (b : Bool) : free0 (.bool b) = true := nd rfl
theorem free0_int (k : IntKind) (b : Int) : free0 (.int k b) = true := nd rfl
theorem free0_float (k : FloatKind) (b : Nat) : free0 (.float k b) = true := nd rfl
theorem free0_agg (l : List Value) : free0 (.agg l.toArray) = l.all free1 := by simp [free0]
theorem cellsL_bool (b : Bool) : cellsL (.bool b) = [.bool b] := nd rfl
theorem cellsL_int (k : IntKind) (b : Int) : cellsL (.int k b) = [.int k b] := nd rfl
theorem cellsL_float (k : FloatKind) (b : Nat) : cellsL (.float k b) = [.float k b] := nd rfl
theorem cellsL_str (b : ByteArray) : cellsL (.string b) = [.string b] := nd rfl
theorem cellsL_ptr (p : Option Addr) : cellsL (.pointer p) = [.pointer p] := nd rfl
theorem cellsL_slice (p : Option Addr) (a b : Nat) : cellsL (.slice p a b) = [.slice p a b] := nd rfl
theorem cellsL_agg (l : List Value) : cellsL (.agg l.toArray) = l := nd rfl
theorem one_bool (b : Bool) : one (.bool b) = true := nd rfl
theorem one_int (k : IntKind) (b : Int) : one (.int k b) = true := nd rfl
theorem one_float (k : FloatKind) (b : Nat) : one (.float k b) = true := nd rfl
theorem one_str (b : ByteArray) : one (.string b) = true := nd rfl
theorem one_ptr (p : Option Addr) : one (.pointer p) = true := nd rfl
theorem one_slice (p : Option Addr) (a b : Nat) : one (.slice p a b) = true := nd rfl
theorem rd_take {α : Type} {l : List α} {n : Nat} (h : l.length = n) : (if n ≤ l.length then some (l.take n) else none) = some l := by
  rw [if_pos (by omega), ← h, List.take_length]
theorem resL_nil (R : H) (fr : Fr) (h : H) : resL R fr h [] = some [] := nd rfl
theorem resL_cons (R : H) (fr : Fr) (h : H) (r : ARes) (l : List ARes) : resL R fr h (r :: l) = (resV R fr h r).bind fun v => (resL R fr h l).map fun vs => v :: vs := nd rfl
theorem resV_tmp (R : H) (fr : Fr) (h : H) (t : Nat) : resV R fr h (.tmp t) = some (fr t) := nd rfl
theorem resV_cell (R : H) (fr : Fr) (h : H) (t : Nat) (n : Option Nat) : resV R fr h (.cell t n) = ldV R h n (fr t) := by
  cases n with
  | none =>
    simp only [resV, ldV]
    cases fr t <;> try rfl
    rename_i p
    cases p with
    | none => rfl
    | some q =>
      simp only [rd]
      cases blk R h q with
      | none => rfl
      | some cs =>
        simp only [Option.bind_some]
        split
        · simp
        · rename_i hle
          rw [List.getElem?_eq_none (by omega)]; rfl
  | some n =>
    simp only [resV, ldV]
    cases fr t <;> rfl
theorem oneOrTuple_one (v : Value) : oneOrTuple [v] = some v := nd rfl
theorem oneOrTuple_two (v u : Value) : oneOrTuple [v, u] = if [v, u].all noTup then some (.tuple #[v, u]) else none := nd rfl
theorem oneOrTuple_nil : oneOrTuple [] = some (.tuple #[]) := nd rfl
theorem oneOrTuple_three (v u x : Value) : oneOrTuple [v, u, x] = if [v, u, x].all noTup then some (.tuple #[v, u, x]) else none := nd rfl

/-- Into a function. -/
theorem EF_go {tab : Nat → Option AFn} {R : H} {f : Nat} {np nt : Nat} {res : List ARes} {body : ACode} (ht : tab f = some (.fn np nt res body)) {as : List Value} {h : H} (hl : as.length = np) :
    EF tab R f as h = (EC tab R body ⟨fr0 as, hp h [], h.length, h.length⟩).bind (endF R h.length res) := by
  rw [EF_fn ht as h hl, ← hp_start]

end Go.AE
