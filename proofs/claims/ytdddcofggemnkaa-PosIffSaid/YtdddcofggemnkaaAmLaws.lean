/- An abstract machine for the part of Go that this program uses: laws to reckon with its operations. -/
import Derived.Test.YtdddcofggemnkaaAmLaw
import Derived.Test.YtdddcofggemnkaaAmCode
import Derived.IntWalk
namespace Go.Am
set_option linter.all false
open Go

variable {T : Nat → Option IFn} {L : Env} {M : Mem}

/-! What becomes of operands, without a name bound. -/
def vM (v : Option AV) (M : Mem) : Option (AV × Mem) :=
  match v with
  | none => none
  | some v => some (v, M)
@[simp ↓, simp, go_sem ↓, go_sem] theorem vM_some {v : AV} : vM (some v) M = some (v, M) := rfl
def ap1 {β : Type} (f : AV → Option β) (x : Option AV) : Option β :=
  match x with
  | none => none
  | some v => f v
@[simp ↓, simp, go_sem ↓, go_sem] theorem ap1_some {β : Type} {f : AV → Option β} {v : AV} : ap1 f (some v) = f v := rfl
def ap2 {β : Type} (f : AV → AV → Option β) (x y : Option AV) : Option β :=
  match x, y with
  | some v, some w => f v w
  | _, _ => none
@[simp ↓, simp, go_sem ↓, go_sem] theorem ap2_some {β : Type} {f : AV → AV → Option β} {v w : AV} : ap2 f (some v) (some w) = f v w := rfl
def ap3 {β : Type} (f : AV → AV → AV → Option β) (x y z : Option AV) : Option β :=
  match x, y, z with
  | some v, some w, some u => f v w u
  | _, _, _ => none
@[simp ↓, simp, go_sem ↓, go_sem] theorem ap3_some {β : Type} {f : AV → AV → AV → Option β} {v w u : AV} : ap3 f (some v) (some w) (some u) = f v w u := rfl
def consA (x : Option AV) (xs : Option (List AV)) : Option (List AV) :=
  match x, xs with
  | some v, some vs => some (v :: vs)
  | _, _ => none
@[simp ↓, simp, go_sem ↓, go_sem] theorem consA_some {v : AV} {vs : List AV} : consA (some v) (some vs) = some (v :: vs) := rfl

@[simp, go_sem] theorem ev_t {s : Nat} : Arg.ev L (.t s) = L.get s := rfl
@[simp, go_sem] theorem ev_k {v : AV} : Arg.ev L (.k v) = some v := rfl
@[simp, go_sem] theorem ev_f {g : Nat} : Arg.ev L (.f g) = some (.func g [] []) := rfl
@[simp, go_sem] theorem evArgs_nil : evArgs L [] = some [] := rfl
@[simp, go_sem] theorem evArgs_cons {a : Arg} {as : List Arg} : evArgs L (a :: as) = consA (a.ev L) (evArgs L as) := by
  simp only [evArgs, consA]
  cases a.ev L with
  | none => rfl
  | some v => cases evArgs L as <;> rfl

@[simp, go_sem] theorem evA_mov {x : Arg} : evA T L M (.mov x) = vM (x.ev L) M := by
  simp only [evA, evOp, vM]; cases x.ev L <;> rfl

def pickV (c a b : Option AV) : Option AV :=
  match c with
  | some (.bool true) => a
  | some (.bool false) => b
  | _ => none
@[simp ↓, simp, go_sem ↓, go_sem] theorem pickV_true {a b : Option AV} : pickV (some (.bool true)) a b = a := rfl
@[simp ↓, simp, go_sem ↓, go_sem] theorem pickV_false {a b : Option AV} : pickV (some (.bool false)) a b = b := rfl
theorem pickV_bool {c : Bool} {a b : Option AV} : pickV (some (.bool c)) a b = if c = true then a else b := by cases c <;> rfl
theorem pickV_pos {p : Prop} [Decidable p] {a b : Option AV} (h : p) : pickV (some (.bool (decide p))) a b = a := by simp [h, pickV]
theorem pickV_neg {p : Prop} [Decidable p] {a b : Option AV} (h : ¬ p) : pickV (some (.bool (decide p))) a b = b := by simp [h, pickV]
@[simp, go_sem] theorem evA_pick {c a b : Arg} : evA T L M (.pick c a b) = vM (pickV (c.ev L) (a.ev L) (b.ev L)) M := by
  simp only [evA, evOp, vM]
  cases h : c.ev L with
  | none => rfl
  | some v =>
    cases v with
    | bool t =>
      cases t
      · simp only [pickV, Bool.false_eq_true, if_false]
        cases b.ev L <;> rfl
      · simp only [pickV, if_true]
        cases a.ev L <;> rfl
    | _ => rfl

@[simp, go_sem] theorem evA_new {cs : List AV} : evA T L M (.new cs) = some (.ptr M.objs.length 0 0, M.push (.row 0 cs)) := rfl
@[simp, go_sem] theorem evA_tipNew {k : Nat} : evA T L M (.tipNew k) = some (.list (.own M.objs.length) k [], M.push (.tip 0)) := rfl
@[simp, go_sem] theorem evA_makeMap : evA T L M .makeMap = some (.map M.objs.length, M.push (.map [])) := rfl
def boxV (M : Mem) (v : AV) : Option (AV × Mem) := if v.solid then some (.ptr M.objs.length 0 0, M.push (.row 0 v.cells)) else none
@[simp, go_sem] theorem boxV_eq {v : AV} : boxV M v = if v.solid then some (.ptr M.objs.length 0 0, M.push (.row 0 v.cells)) else none := rfl
@[simp, go_sem] theorem evA_box {x : Arg} : evA T L M (.box x) = ap1 (boxV M) (x.ev L) := by
  simp only [evA, evOp, ap1]; cases x.ev L <;> rfl
def consP (o s : Nat) (one : Bool) (x : Option AV) (xs : Option (List (Nat × Nat × AV))) : Option (List (Nat × Nat × AV)) :=
  match x, xs with
  | some v, some vs => some ((o, s, if one then v.untag1 else v.untag) :: vs)
  | _, _ => none
@[simp ↓, simp, go_sem ↓, go_sem] theorem consP_one {o s : Nat} {v : AV} {vs : List (Nat × Nat × AV)} : consP o s true (some v) (some vs) = some ((o, s, v.untag1) :: vs) := rfl
@[simp ↓, simp, go_sem ↓, go_sem] theorem consP_all {o s : Nat} {v : AV} {vs : List (Nat × Nat × AV)} : consP o s false (some v) (some vs) = some ((o, s, v.untag) :: vs) := rfl
@[simp, go_sem] theorem partArgs_nil : partArgs L [] = some [] := rfl
@[simp, go_sem] theorem partArgs_cons {o s : Nat} {a : Arg} {as : List (Nat × Nat × Arg)} : partArgs L ((o, s, a) :: as) = consP o s true (a.ev L) (partArgs L as) := by
  simp only [partArgs, consP]
  cases a.ev L with
  | none => rfl
  | some v => simp only; cases partArgs L as <;> rfl
@[simp, go_sem] theorem elemArgs_nil {k : Nat} : elemArgs L k [] = some [] := rfl
@[simp, go_sem] theorem elemArgs_cons {i k : Nat} {a : Arg} {as : List (Nat × Arg)} : elemArgs L k ((i, a) :: as) = consP (i * k) k false (a.ev L) (elemArgs L k as) := by
  simp only [elemArgs, consP]
  cases a.ev L with
  | none => rfl
  | some v => simp only; cases elemArgs L k as <;> rfl
def fillO (cs : List AV) (ps : Option (List (Nat × Nat × AV))) : Option (List AV) :=
  match ps with
  | none => none
  | some ps => fillParts cs ps
@[simp ↓, simp, go_sem ↓, go_sem] theorem fillO_some {cs : List AV} {ps : List (Nat × Nat × AV)} : fillO cs (some ps) = fillParts cs ps := rfl
@[simp, go_sem] theorem fillParts_nil {cs : List AV} : fillParts cs [] = some cs := rfl
@[simp, go_sem] theorem fillParts_cons {cs : List AV} {off size : Nat} {v : AV} {rest : List (Nat × Nat × AV)} : fillParts cs ((off, size, v) :: rest) = if v.cells.length = size ∧ off + size ≤ cs.length ∧ v.solid then fillParts (setCells cs off v.cells) rest else none := rfl
def aggM (M : Mem) (cs : Option (List AV)) : Option (AV × Mem) :=
  match cs with
  | none => none
  | some cs => some (.agg cs, M)
@[simp ↓, simp, go_sem ↓, go_sem] theorem aggM_some {cs : List AV} : aggM M (some cs) = some (.agg cs, M) := rfl
@[simp, go_sem] theorem evA_build {zero : List AV} {parts : List (Nat × Nat × Arg)} : evA T L M (.build zero parts) = aggM M (fillO zero (partArgs L parts)) := by
  simp only [evA, evOp, aggM, fillO]
  cases partArgs L parts with
  | none => rfl
  | some ps => simp only; cases fillParts zero ps <;> rfl
def sliceM (M : Mem) (k len : Nat) (row : Bool) (cs : Option (List AV)) : Option (AV × Mem) :=
  match cs with
  | none => none
  | some cs => if row then some (.ref M.objs.length 0 0 len, M.push (.row 0 cs)) else some (.list .full k (toElems k cs len), M)
@[simp ↓, simp, go_sem ↓, go_sem] theorem sliceM_row {k len : Nat} {cs : List AV} : sliceM M k len true (some cs) = some (.ref M.objs.length 0 0 len, M.push (.row 0 cs)) := rfl
@[simp ↓, simp, go_sem ↓, go_sem] theorem sliceM_list {k len : Nat} {cs : List AV} : sliceM M k len false (some cs) = some (.list .full k (toElems k cs len), M) := rfl
@[simp, go_sem] theorem evA_buildSlice {k len : Nat} {zero : List AV} {parts : List (Nat × Arg)} {row : Bool} : evA T L M (.buildSlice k zero len parts row) = if k = 0 ∨ zero.length ≠ k ∨ len * k > 16777216 then none else sliceM M k len row (fillO (rep zero len) (elemArgs L k parts)) := by
  simp only [evA, evOp, sliceM, fillO]
  cases elemArgs L k parts with
  | none => simp
  | some ps =>
    simp only
    split
    · rfl
    · cases fillParts (rep zero len) ps <;> rfl
@[simp, go_sem] theorem rep_zero {z : List AV} : rep z 0 = [] := rfl
@[simp, go_sem] theorem rep_succ {z : List AV} {n : Nat} : rep z (n + 1) = z ++ rep z n := rfl
@[simp, go_sem] theorem toElems_zero {k : Nat} {cs : List AV} : toElems k cs 0 = [] := rfl
theorem toElems_one {cs : List AV} : toElems 1 cs cs.length = cs := by
  induction cs with
  | nil => rfl
  | cons c cs ih => simp only [List.length_cons, toElems, if_true, List.head?_cons, Option.getD_some, List.drop_succ_cons, List.drop_zero, ih]
@[simp, go_sem] theorem toElems_one1 {c : AV} : toElems 1 [c] 1 = [c] := rfl
@[simp, go_sem] theorem toElems_one2 {c d : AV} : toElems 1 [c, d] 2 = [c, d] := rfl
@[simp, go_sem] theorem toElems_one3 {c d e : AV} : toElems 1 [c, d, e] 3 = [c, d, e] := rfl
@[simp, go_sem] theorem toElems_one4 {c d e f : AV} : toElems 1 [c, d, e, f] 4 = [c, d, e, f] := rfl
@[simp, go_sem] theorem evA_load {k : Option Nat} {a : Arg} : evA T L M (.load k a) = vM (ap1 (M.load k) (a.ev L)) M := by
  simp only [evA, evOp, ap1, vM]
  cases a.ev L with
  | none => rfl
  | some p => simp only; cases M.load k p <;> rfl
def stM (m : Option Mem) : Option (AV × Mem) :=
  match m with
  | none => none
  | some m => some (.tuple [], m)
@[simp ↓, simp, go_sem ↓, go_sem] theorem stM_some : stM (some M) = some (.tuple [], M) := rfl
@[simp, go_sem] theorem evA_store {k : Nat} {a x : Arg} : evA T L M (.store k a x) = stM (ap2 (M.store k) (a.ev L) (x.ev L)) := by
  simp only [evA, evOp, ap2, stM]
  cases a.ev L with
  | none => rfl
  | some p =>
    cases x.ev L with
    | none => rfl
    | some v => simp only; cases M.store k p v <;> rfl
def nilCk (M : Mem) : AV → Option (AV × Mem)
  | .ptr a b c => some (.ptr a b c, M)
  | .cptr y => some (.cptr y, M)
  | .func g a b => some (.func g a b, M)
  | .yield id => some (.yield id, M)
  | _ => none
@[simp, go_sem] theorem evA_nilCheck {x : Arg} : evA T L M (.nilCheck x) = ap1 (nilCk M) (x.ev L) := by
  simp only [evA, evOp, ap1]
  cases x.ev L with
  | none => rfl
  | some v => cases v <;> rfl
@[simp, go_sem] theorem nilCk_ptr {a b c : Nat} : nilCk M (.ptr a b c) = some (.ptr a b c, M) := rfl
@[simp, go_sem] theorem nilCk_cptr {y : AV} : nilCk M (.cptr y) = some (.cptr y, M) := rfl
@[simp, go_sem] theorem nilCk_yield {id : Nat} : nilCk M (.yield id) = some (.yield id, M) := rfl
@[simp, go_sem] theorem nilCk_func {g : Nat} {a b : List AV} : nilCk M (.func g a b) = some (.func g a b, M) := rfl
@[simp, go_sem] theorem evA_bin {op : BinOp} {x y : Arg} : evA T L M (.bin op x y) = vM (ap2 (aBin op) (x.ev L) (y.ev L)) M := by
  simp only [evA, evOp, ap2, vM]
  cases x.ev L with
  | none => rfl
  | some a =>
    cases y.ev L with
    | none => rfl
    | some b => simp only; cases aBin op a b <;> rfl
def eqM (neg : Bool) (t : Option Bool) : Option AV :=
  match t with
  | none => none
  | some t => some (.bool (if neg then !t else t))
@[simp ↓, simp, go_sem ↓, go_sem] theorem eqM_eq {t : Bool} : eqM false (some t) = some (.bool t) := rfl
@[simp ↓, simp, go_sem ↓, go_sem] theorem eqM_ne {t : Bool} : eqM true (some t) = some (.bool (!t)) := rfl
@[simp, go_sem] theorem evA_eqv {q : EQ} {neg : Bool} {x y : Arg} : evA T L M (.eqv q neg x y) = vM (eqM neg (ap2 (AV.eqv q) (x.ev L) (y.ev L))) M := by
  simp only [evA, evOp, ap2, eqM, vM]
  cases x.ev L with
  | none => rfl
  | some a =>
    cases y.ev L with
    | none => rfl
    | some b => simp only; cases AV.eqv q a b <;> rfl
@[simp, go_sem] theorem evA_un {op : UnOp} {x : Arg} : evA T L M (.un op x) = vM (ap1 (aUn op) (x.ev L)) M := by
  simp only [evA, evOp, ap1, vM]
  cases x.ev L with
  | none => rfl
  | some a => simp only; cases aUn op a <;> rfl
def convV (k : IntKind) : AV → Option AV
  | .int _ n => some (.int k (k.wrap n))
  | _ => none
@[simp, go_sem] theorem convV_int {k j : IntKind} {n : Int} : convV k (.int j n) = some (.int k (k.wrap n)) := rfl
@[simp, go_sem] theorem evA_conv {k : IntKind} {x : Arg} : evA T L M (.conv k x) = vM (ap1 (convV k) (x.ev L)) M := by
  simp only [evA, evOp, ap1, vM]
  cases x.ev L with
  | none => rfl
  | some a => cases a <;> rfl
def sameV : AV → Option AV
  | .str s => some (.str s)
  | _ => none
@[simp, go_sem] theorem sameV_str {s : ByteArray} : sameV (.str s) = some (.str s) := rfl
@[simp, go_sem] theorem evA_same {x : Arg} : evA T L M (.same x) = vM (ap1 sameV (x.ev L)) M := by
  simp only [evA, evOp, ap1, vM]
  cases x.ev L with
  | none => rfl
  | some a => cases a <;> rfl
def fieldV (off : Nat) (k : Option Nat) : AV → Option AV
  | .agg xs => partOf xs off k
  | _ => none
@[simp, go_sem] theorem fieldV_agg {off : Nat} {k : Option Nat} {xs : List AV} : fieldV off k (.agg xs) = partOf xs off k := rfl
@[simp, go_sem] theorem evA_field {off : Nat} {k : Option Nat} {x : Arg} : evA T L M (.field off k x) = vM (ap1 (fieldV off k) (x.ev L)) M := by
  simp only [evA, evOp, ap1, vM]
  cases x.ev L with
  | none => rfl
  | some a =>
    cases a with
    | agg xs => simp only [fieldV]; cases partOf xs off k <;> rfl
    | _ => rfl
@[simp, go_sem] theorem evA_fieldAddr {off k : Nat} {x : Arg} : evA T L M (.fieldAddr off k x) = vM (ap1 (aFieldAddr off k) (x.ev L)) M := by
  simp only [evA, evOp, ap1, vM]
  cases x.ev L with
  | none => rfl
  | some p => simp only; cases aFieldAddr off k p <;> rfl
@[simp, go_sem] theorem evA_indexAddr {k : Nat} {x i : Arg} : evA T L M (.indexAddr k x i) = vM (ap2 (aIndexAddr M k) (x.ev L) (i.ev L)) M := by
  simp only [evA, evOp, ap2, vM]
  cases x.ev L with
  | none => rfl
  | some a =>
    cases i.ev L with
    | none => rfl
    | some b => simp only; cases aIndexAddr M k a b <;> rfl
@[simp, go_sem] theorem evA_index {k : Option (Nat × Nat × Bool)} {x i : Arg} : evA T L M (.index k x i) = vM (ap2 (aIndex k) (x.ev L) (i.ev L)) M := by
  simp only [evA, evOp, ap2, vM]
  cases x.ev L with
  | none => rfl
  | some a =>
    cases i.ev L with
    | none => rfl
    | some b => simp only; cases aIndex k a b <;> rfl
def sliceV (k : Nat) (x : Option AV) (lo hi : Option (Option AV)) : Option AV :=
  match x, lo, hi with
  | some a, some l, some h => aSlice k a l h
  | _, _, _ => none
@[simp ↓, simp, go_sem ↓, go_sem] theorem sliceV_some {k : Nat} {a : AV} {l h : Option AV} : sliceV k (some a) (some l) (some h) = aSlice k a l h := rfl
def someV (v : Option AV) : Option (Option AV) :=
  match v with
  | none => none
  | some v => some (some v)
@[simp ↓, simp, go_sem ↓, go_sem] theorem someV_some {v : AV} : someV (some v) = some (some v) := rfl
@[simp, go_sem] theorem optArg_none : optArg L none = some none := rfl
@[simp, go_sem] theorem optArg_some {a : Arg} : optArg L (some a) = someV (a.ev L) := by
  simp only [optArg, someV]; cases a.ev L <;> rfl
@[simp, go_sem] theorem evA_slice {k : Nat} {x : Arg} {lo hi : Option Arg} : evA T L M (.slice k x lo hi) = vM (sliceV k (x.ev L) (optArg L lo) (optArg L hi)) M := by
  simp only [evA, evOp, sliceV, vM]
  cases x.ev L with
  | none => rfl
  | some a =>
    cases optArg L lo with
    | none => rfl
    | some l =>
      cases optArg L hi with
      | none => rfl
      | some h => simp only; cases aSlice k a l h <;> rfl
def foundV (zero : AV) (ok : Bool) (r : Option (Option AV)) : Option AV :=
  match r with
  | none => none
  | some (some v) => some (if ok then .tuple [v, .bool true] else v)
  | some none => some (if ok then .tuple [zero, .bool false] else zero)
@[simp ↓, simp, go_sem ↓, go_sem] theorem foundV_hit {zero v : AV} : foundV zero false (some (some v)) = some v := rfl
@[simp ↓, simp, go_sem ↓, go_sem] theorem foundV_miss {zero : AV} : foundV zero false (some none) = some zero := rfl
@[simp ↓, simp, go_sem ↓, go_sem] theorem foundV_hitok {zero v : AV} : foundV zero true (some (some v)) = some (.tuple [v, .bool true]) := rfl
@[simp ↓, simp, go_sem ↓, go_sem] theorem foundV_missok {zero : AV} : foundV zero true (some none) = some (.tuple [zero, .bool false]) := rfl
def mapFind (q : EQ) (b : AV) (o : Option AObj) : Option (Option AV) :=
  match o with
  | some (.map es) => findKey q b es
  | _ => none
@[simp ↓, simp, go_sem ↓, go_sem] theorem mapFind_map {q : EQ} {b : AV} {es : List (AV × AV)} : mapFind q b (some (.map es)) = findKey q b es := rfl
def lookV (M : Mem) (q : EQ) (zero : AV) (ok : Bool) (a b : AV) : Option AV :=
  match a with
  | .map id => if q.fits b then foundV zero ok (mapFind q b M.objs[id]?) else none
  | .nilmap => if q.fits b then foundV zero ok (some none) else none
  | _ => none
@[simp, go_sem] theorem lookV_map {q : EQ} {zero b : AV} {ok : Bool} {id : Nat} : lookV M q zero ok (.map id) b = if q.fits b then foundV zero ok (mapFind q b M.objs[id]?) else none := rfl
@[simp, go_sem] theorem lookV_nil {q : EQ} {zero b : AV} {ok : Bool} : lookV M q zero ok .nilmap b = if q.fits b then foundV zero ok (some none) else none := rfl
@[simp, go_sem] theorem evA_lookup {q : EQ} {zero : AV} {ok : Bool} {x i : Arg} : evA T L M (.lookup q zero ok x i) = vM (ap2 (lookV M q zero ok) (x.ev L) (i.ev L)) M := by
  simp only [evA, evOp, ap2, vM]
  cases x.ev L with
  | none => rfl
  | some a =>
    cases i.ev L with
    | none => cases a <;> rfl
    | some b =>
      cases a with
      | map id =>
        simp only [lookV]
        split
        · cases M.objs[id]? with
          | none => rfl
          | some o =>
            cases o with
            | map es =>
              simp only [mapFind]
              cases findKey q b es with
              | none => rfl
              | some r => cases r <;> rfl
            | _ => rfl
        · rfl
      | nilmap =>
        simp only [lookV]
        split <;> rfl
      | _ => rfl
def mapPut (M : Mem) (id : Nat) (q : EQ) (b c : AV) (o : Option AObj) : Option Mem :=
  match o with
  | some (.map es) => match putKey q b c es with
    | none => none
    | some es' => some (M.put id (.map es'))
  | _ => none
def putM (M : Mem) (id : Nat) (es : Option (List (AV × AV))) : Option Mem :=
  match es with
  | none => none
  | some es' => some (M.put id (.map es'))
@[simp ↓, simp, go_sem ↓, go_sem] theorem putM_some {id : Nat} {es : List (AV × AV)} : putM M id (some es) = some (M.put id (.map es)) := rfl
@[simp ↓, simp, go_sem ↓, go_sem] theorem mapPut_map {id : Nat} {q : EQ} {b c : AV} {es : List (AV × AV)} : mapPut M id q b c (some (.map es)) = putM M id (putKey q b c es) := by
  simp only [mapPut, putM]
def updV (M : Mem) (q : EQ) (a b c : AV) : Option Mem :=
  match a with
  | .map id => if q.fits b then mapPut M id q b c M.objs[id]? else none
  | _ => none
@[simp, go_sem] theorem updV_map {q : EQ} {b c : AV} {id : Nat} : updV M q (.map id) b c = if q.fits b then mapPut M id q b c M.objs[id]? else none := rfl
@[simp, go_sem] theorem evA_mapUpdate {q : EQ} {x i v : Arg} : evA T L M (.mapUpdate q x i v) = stM (ap3 (updV M q) (x.ev L) (i.ev L) (v.ev L)) := by
  simp only [evA, evOp, ap3, stM]
  cases x.ev L with
  | none => rfl
  | some a =>
    cases i.ev L with
    | none => cases a <;> rfl
    | some b =>
      cases v.ev L with
      | none => cases a <;> rfl
      | some c =>
        cases a with
        | map id =>
          simp only [updV, mapPut]
          split
          · cases M.objs[id]? with
            | none => rfl
            | some o =>
              cases o with
              | map es => simp only; cases putKey q b c es <;> rfl
              | _ => rfl
          · rfl
        | _ => rfl
def mkSlice (M : Mem) (k bytes : Nat) (zero : List AV) (row : Bool) : AV → Option (AV × Mem)
  | .int .i64 n => if 0 ≤ n ∧ n * bytes ≤ room ∧ n ≤ room ∧ zero.length = k ∧ 0 < k then
        if row then some (.ref M.objs.length 0 0 n.toNat, M.push (.row 0 (rep zero n.toNat)))
        else some (.list .full k (List.replicate n.toNat (if k = 1 then (zero.head?).getD (.tuple []) else .agg zero)), M)
      else none
  | _ => none
theorem mkSlice_row {k bytes n : Nat} {zero : List AV} (h : n * bytes ≤ 140737488355328) (h2 : n ≤ 140737488355328) (h3 : zero.length = k) (h4 : 0 < k) : mkSlice M k bytes zero true (.int .i64 n) = some (.ref M.objs.length 0 0 n, M.push (.row 0 (rep zero n))) := by
  have h5 : ((n : Int) * (bytes : Int)) ≤ (room : Int) := by simp only [room]; rw [← Int.natCast_mul]; omega
  have h6 : ((n : Int)) ≤ (room : Int) := by simp only [room]; omega
  simp [mkSlice, h3, h4, h5, h6]
theorem mkSlice_row1 {bytes n : Nat} {z : AV} (h : n * bytes ≤ 140737488355328) (h2 : n ≤ 140737488355328) : mkSlice M 1 bytes [z] true (.int .i64 n) = some (.ref M.objs.length 0 0 n, M.push (.row 0 (List.replicate n z))) := by
  rw [mkSlice_row (k := 1) (zero := [z]) h h2 rfl (by omega)]
  congr
  clear h h2
  induction n with
  | zero => rfl
  | succ n ih => simp [rep, ih, List.replicate_succ]
theorem mkSlice_list1 {bytes n : Nat} {z : AV} (h : n * bytes ≤ 140737488355328) (h2 : n ≤ 140737488355328) : mkSlice M 1 bytes [z] false (.int .i64 n) = some (.list .full 1 (List.replicate n z), M) := by
  have h5 : ((n : Int) * (bytes : Int)) ≤ (room : Int) := by simp only [room]; rw [← Int.natCast_mul]; omega
  have h6 : ((n : Int)) ≤ (room : Int) := by simp only [room]; omega
  simp [mkSlice, h5, h6]
@[simp, go_sem] theorem evA_makeSlice {k bytes : Nat} {zero : List AV} {len : Arg} {row : Bool} : evA T L M (.makeSlice k bytes zero len row) = ap1 (mkSlice M k bytes zero row) (len.ev L) := by
  simp only [evA, evOp, ap1]
  cases len.ev L with
  | none => rfl
  | some n =>
    cases n with
    | int q n => cases q <;> rfl
    | _ => rfl
def funcV (g : Nat) (a b : Option (List AV)) : Option AV :=
  match a, b with
  | some a, some b => some (.func g a b)
  | _, _ => none
@[simp ↓, simp, go_sem ↓, go_sem] theorem funcV_some {g : Nat} {a b : List AV} : funcV g (some a) (some b) = some (.func g a b) := rfl
@[simp, go_sem] theorem evA_makeFunc {g : Nat} {first caps : List Arg} : evA T L M (.makeFunc g first caps) = vM (funcV g (evArgs L first) (evArgs L caps)) M := by
  simp only [evA, evOp, funcV, vM]
  cases evArgs L first with
  | none => rfl
  | some a => cases evArgs L caps <;> rfl
def ifaceV (t : Nat) (v : AV) : Option AV := some (.iface t v)
@[simp ↓, simp, go_sem ↓, go_sem] theorem ifaceV_eq {t : Nat} {v : AV} : ifaceV t v = some (.iface t v) := rfl
@[simp, go_sem] theorem evA_makeIface {t : Nat} {x : Arg} : evA T L M (.makeIface t x) = vM (ap1 (ifaceV t) (x.ev L)) M := by
  simp only [evA, evOp, ap1, vM]; cases x.ev L <;> rfl
def extrV (i : Nat) : AV → Option AV
  | .tuple xs => xs[i]?
  | _ => none
@[simp, go_sem] theorem extrV_tuple {i : Nat} {xs : List AV} : extrV i (.tuple xs) = xs[i]? := rfl
@[simp, go_sem] theorem evA_extract {x : Arg} {i : Nat} : evA T L M (.extract x i) = vM (ap1 (extrV i) (x.ev L)) M := by
  simp only [evA, evOp, ap1, vM]
  cases x.ev L with
  | none => rfl
  | some a =>
    cases a with
    | tuple xs => simp only [extrV]; cases xs[i]? <;> rfl
    | _ => rfl
noncomputable def callV (T : Nat → Option IFn) (M : Mem) (keep : Bool) (g : Option AV) (vs : Option (List AV)) : Option (AV × Mem) :=
  match g, vs with
  | some (.func f first caps), some vs => Call T f (first ++ (if keep then vs else vs.map AV.untag) ++ caps) M
  | some (.yield id), some vs => Call T (yb + id) (if keep then vs else vs.map AV.untag) M
  | _, _ => none
@[simp, go_sem] theorem callV_yield {id : Nat} {vs : List AV} : callV T M false (some (.yield id)) (some vs) = Call T (yb + id) (vs.map AV.untag) M := by
  simp [callV]
@[simp, go_sem] theorem callV_func {f : Nat} {first caps vs : List AV} : callV T M false (some (.func f first caps)) (some vs) = Call T f (first ++ (vs.map AV.untag ++ caps)) M := by
  simp [callV]
@[simp, go_sem] theorem callV_keep {f : Nat} {first caps vs : List AV} : callV T M true (some (.func f first caps)) (some vs) = Call T f (first ++ (vs ++ caps)) M := by
  simp [callV]
@[simp, go_sem] theorem evA_call {g : Arg} {args : List Arg} {keep : Bool} : evA T L M (.call g args keep) = callV T M keep (g.ev L) (evArgs L args) := by
  simp only [evA, evOp, callV]
  cases g.ev L with
  | none => rfl
  | some a =>
    cases evArgs L args with
    | none => cases a <;> rfl
    | some vs => cases a <;> rfl
@[simp, go_sem] theorem evA_len {kd : Nat} {x : Arg} : evA T L M (.len kd x) = vM (ap1 (aLen M kd) (x.ev L)) M := by
  simp only [evA, evOp, ap1, vM]
  cases x.ev L with
  | none => rfl
  | some a => simp only; cases aLen M kd a <;> rfl
def appV (M : Mem) (k bytes : Nat) (a : Option AV) (ys : Option (List AV)) : Option (AV × Mem) :=
  match a, ys with
  | some a, some ys => aAppend M k bytes a (ys.map AV.untag) 0
  | _, _ => none
@[simp ↓, simp, go_sem ↓, go_sem] theorem appV_some {k bytes : Nat} {a : AV} {ys : List AV} : appV M k bytes (some a) (some ys) = aAppend M k bytes a (ys.map AV.untag) 0 := rfl
@[simp, go_sem] theorem evA_append {k bytes : Nat} {x y : Arg} : evA T L M (.append k bytes x y 0) = appV M k bytes (x.ev L) (ap1 (M.elems k) (y.ev L)) := by
  simp only [evA, evOp, appV, ap1]
  cases x.ev L with
  | none => rfl
  | some a =>
    cases y.ev L with
    | none => rfl
    | some b => simp only; cases M.elems k b <;> rfl
def maxV (less : Bool) : AV → AV → Option AV
  | .int k a, .int _ b => some (.int k (if less then (if b < a then b else a) else if b > a then b else a))
  | _, _ => none
@[simp, go_sem] theorem evA_max2 {x y : Arg} : evA T L M (.max2 x y) = vM (ap2 (maxV false) (x.ev L) (y.ev L)) M := by
  simp only [evA, evOp, ap2, vM]
  cases x.ev L with
  | none => rfl
  | some a =>
    cases y.ev L with
    | none => cases a <;> rfl
    | some b => cases a <;> cases b <;> rfl
@[simp, go_sem] theorem evA_min2 {x y : Arg} : evA T L M (.min2 x y) = vM (ap2 (maxV true) (x.ev L) (y.ev L)) M := by
  simp only [evA, evOp, ap2, vM]
  cases x.ev L with
  | none => rfl
  | some a =>
    cases y.ev L with
    | none => cases a <;> rfl
    | some b => cases a <;> cases b <;> rfl
@[simp, go_sem] theorem maxV_min {k j : IntKind} {a b : Int} : maxV true (.int k a) (.int j b) = some (.int k (min a b)) := by
  simp only [maxV, if_true, Option.some.injEq, AV.int.injEq, true_and]; split <;> omega
@[simp, go_sem] theorem maxV_max {k j : IntKind} {a b : Int} : maxV false (.int k a) (.int j b) = some (.int k (max a b)) := by
  simp only [maxV, Bool.false_eq_true, if_false, Option.some.injEq, AV.int.injEq, true_and]; split <;> omega

/-! Values. -/

@[simp, go_sem] theorem untag_bool {b : Bool} : AV.untag (.bool b) = .bool b := rfl
@[simp, go_sem] theorem untag_int {k : IntKind} {n : Int} : AV.untag (.int k n) = .int k n := rfl
@[simp, go_sem] theorem untag_str {s : ByteArray} : AV.untag (.str s) = .str s := rfl
@[simp, go_sem] theorem untag_list {g : Tag} {k : Nat} {xs : List AV} : AV.untag (.list g k xs) = .list .shared k xs := rfl
@[simp, go_sem] theorem untag_ref {a b c d : Nat} : AV.untag (.ref a b c d) = .ref a b c d := rfl
@[simp, go_sem] theorem untag_ptr {a b c : Nat} : AV.untag (.ptr a b c) = .ptr a b c := rfl
@[simp, go_sem] theorem untag_cptr {x : AV} : AV.untag (.cptr x) = .cptr x := rfl
@[simp, go_sem] theorem untag_nilptr : AV.untag .nilptr = .nilptr := rfl
@[simp, go_sem] theorem untag_map {a : Nat} : AV.untag (.map a) = .map a := rfl
@[simp, go_sem] theorem untag_nilmap : AV.untag .nilmap = .nilmap := rfl
@[simp, go_sem] theorem untag_func {g : Nat} {a b : List AV} : AV.untag (.func g a b) = .func g a b := rfl
@[simp, go_sem] theorem untag_nilfunc : AV.untag .nilfunc = .nilfunc := rfl
@[simp, go_sem] theorem untag_iface {t : Nat} {v : AV} : AV.untag (.iface t v) = .iface t v := rfl
@[simp, go_sem] theorem untag_niliface : AV.untag .niliface = .niliface := rfl
@[simp, go_sem] theorem untag_agg {xs : List AV} : AV.untag (.agg xs) = .agg (xs.map AV.untag1) := rfl
@[simp, go_sem] theorem untag_tuple {xs : List AV} : AV.untag (.tuple xs) = .tuple (xs.map fun v => match v with | .agg ys => .agg (ys.map AV.untag1) | v => v.untag1) := rfl
@[simp, go_sem] theorem untag1_bool {b : Bool} : AV.untag1 (.bool b) = .bool b := rfl
@[simp, go_sem] theorem untag1_int {k : IntKind} {n : Int} : AV.untag1 (.int k n) = .int k n := rfl
@[simp, go_sem] theorem untag1_str {s : ByteArray} : AV.untag1 (.str s) = .str s := rfl
@[simp, go_sem] theorem untag1_list {g : Tag} {k : Nat} {xs : List AV} : AV.untag1 (.list g k xs) = .list .shared k xs := rfl
@[simp, go_sem] theorem untag1_ref {a b c d : Nat} : AV.untag1 (.ref a b c d) = .ref a b c d := rfl
@[simp, go_sem] theorem untag1_ptr {a b c : Nat} : AV.untag1 (.ptr a b c) = .ptr a b c := rfl
@[simp, go_sem] theorem untag1_nilptr : AV.untag1 .nilptr = .nilptr := rfl
@[simp, go_sem] theorem untag1_map {a : Nat} : AV.untag1 (.map a) = .map a := rfl
@[simp, go_sem] theorem untag1_func {g : Nat} {a b : List AV} : AV.untag1 (.func g a b) = .func g a b := rfl
@[simp, go_sem] theorem untag1_iface {t : Nat} {v : AV} : AV.untag1 (.iface t v) = .iface t v := rfl
@[simp, go_sem] theorem untag1_niliface : AV.untag1 .niliface = .niliface := rfl
@[simp, go_sem] theorem untag1_agg {xs : List AV} : AV.untag1 (.agg xs) = .agg xs := rfl

@[simp, go_sem] theorem cells_bool {b : Bool} : AV.cells (.bool b) = [.bool b] := rfl
@[simp, go_sem] theorem cells_int {k : IntKind} {n : Int} : AV.cells (.int k n) = [.int k n] := rfl
@[simp, go_sem] theorem cells_str {s : ByteArray} : AV.cells (.str s) = [.str s] := rfl
@[simp, go_sem] theorem cells_list {g : Tag} {k : Nat} {xs : List AV} : AV.cells (.list g k xs) = [.list g k xs] := rfl
@[simp, go_sem] theorem cells_ref {a b c d : Nat} : AV.cells (.ref a b c d) = [.ref a b c d] := rfl
@[simp, go_sem] theorem cells_ptr {a b c : Nat} : AV.cells (.ptr a b c) = [.ptr a b c] := rfl
@[simp, go_sem] theorem cells_cptr {x : AV} : AV.cells (.cptr x) = [.cptr x] := rfl
@[simp, go_sem] theorem cells_nilptr : AV.cells .nilptr = [.nilptr] := rfl
@[simp, go_sem] theorem cells_map {a : Nat} : AV.cells (.map a) = [.map a] := rfl
@[simp, go_sem] theorem cells_nilmap : AV.cells .nilmap = [.nilmap] := rfl
@[simp, go_sem] theorem cells_func {g : Nat} {a b : List AV} : AV.cells (.func g a b) = [.func g a b] := rfl
@[simp, go_sem] theorem cells_nilfunc : AV.cells .nilfunc = [.nilfunc] := rfl
@[simp, go_sem] theorem cells_iface {t : Nat} {v : AV} : AV.cells (.iface t v) = [.iface t v] := rfl
@[simp, go_sem] theorem cells_niliface : AV.cells .niliface = [.niliface] := rfl
@[simp, go_sem] theorem cells_agg {xs : List AV} : AV.cells (.agg xs) = xs := rfl
@[simp, go_sem] theorem solid_bool {b : Bool} : AV.solid (.bool b) = true := rfl
@[simp, go_sem] theorem solid_int {k : IntKind} {n : Int} : AV.solid (.int k n) = true := rfl
@[simp, go_sem] theorem solid_str {s : ByteArray} : AV.solid (.str s) = true := rfl
@[simp, go_sem] theorem solid_list {g : Tag} {k : Nat} {xs : List AV} : AV.solid (.list g k xs) = true := rfl
@[simp, go_sem] theorem solid_ref {a b c d : Nat} : AV.solid (.ref a b c d) = true := rfl
@[simp, go_sem] theorem solid_ptr {a b c : Nat} : AV.solid (.ptr a b c) = true := rfl
@[simp, go_sem] theorem solid_cptr {x : AV} : AV.solid (.cptr x) = true := rfl
@[simp, go_sem] theorem solid_nilptr : AV.solid .nilptr = true := rfl
@[simp, go_sem] theorem solid_map {a : Nat} : AV.solid (.map a) = true := rfl
@[simp, go_sem] theorem solid_func {g : Nat} {a b : List AV} : AV.solid (.func g a b) = true := rfl
@[simp, go_sem] theorem solid_nilfunc : AV.solid .nilfunc = true := rfl
@[simp, go_sem] theorem solid_iface {t : Nat} {v : AV} : AV.solid (.iface t v) = true := rfl
@[simp, go_sem] theorem solid_agg {xs : List AV} : AV.solid (.agg xs) = true := rfl

@[simp, go_sem] theorem under_bool {n : Nat} {b : Bool} : AV.under n (.bool b) = true := rfl
@[simp, go_sem] theorem under_int {n : Nat} {k : IntKind} {i : Int} : AV.under n (.int k i) = true := rfl
@[simp, go_sem] theorem under_str {n : Nat} {s : ByteArray} : AV.under n (.str s) = true := rfl
@[simp, go_sem] theorem under_shared {n : Nat} {k : Nat} {xs : List AV} : AV.under n (.list .shared k xs) = AV.underAll n xs := by simp [AV.under]
@[simp, go_sem] theorem under_full {n : Nat} {k : Nat} {xs : List AV} : AV.under n (.list .full k xs) = AV.underAll n xs := by simp [AV.under]
@[simp, go_sem] theorem under_own {n t : Nat} {k : Nat} {xs : List AV} : AV.under n (.list (.own t) k xs) = (decide (t < n) && AV.underAll n xs) := by simp [AV.under]
@[simp, go_sem] theorem under_ref {n a b c d : Nat} : AV.under n (.ref a b c d) = decide (a < n) := by simp [AV.under]
@[simp, go_sem] theorem under_ptr {n a b c : Nat} : AV.under n (.ptr a b c) = decide (a < n) := by simp [AV.under]
@[simp, go_sem] theorem under_cptr {n : Nat} {x : AV} : AV.under n (.cptr x) = AV.under n x := by simp [AV.under]
@[simp, go_sem] theorem under_nilptr {n : Nat} : AV.under n .nilptr = true := rfl
@[simp, go_sem] theorem under_map {n a : Nat} : AV.under n (.map a) = decide (a < n) := by simp [AV.under]
@[simp, go_sem] theorem under_nilmap {n : Nat} : AV.under n .nilmap = true := rfl
@[simp, go_sem] theorem under_func {n g : Nat} {a b : List AV} : AV.under n (.func g a b) = (AV.underAll n a && AV.underAll n b) := by simp [AV.under]
@[simp, go_sem] theorem under_nilfunc {n : Nat} : AV.under n .nilfunc = true := rfl
@[simp, go_sem] theorem under_iface {n t : Nat} {v : AV} : AV.under n (.iface t v) = AV.under n v := by simp [AV.under]
@[simp, go_sem] theorem under_niliface {n : Nat} : AV.under n .niliface = true := rfl
@[simp, go_sem] theorem under_agg {n : Nat} {xs : List AV} : AV.under n (.agg xs) = AV.underAll n xs := by simp [AV.under]
@[simp, go_sem] theorem under_tuple {n : Nat} {xs : List AV} : AV.under n (.tuple xs) = AV.underAll n xs := by simp [AV.under]
@[simp, go_sem] theorem underAll_nil {n : Nat} : AV.underAll n [] = true := rfl
@[simp, go_sem] theorem underAll_cons {n : Nat} {x : AV} {xs : List AV} : AV.underAll n (x :: xs) = (AV.under n x && AV.underAll n xs) := by simp [AV.underAll]
theorem underAll_iff {n : Nat} {xs : List AV} : AV.underAll n xs = true ↔ ∀ x ∈ xs, AV.under n x = true := by
  induction xs with
  | nil => simp
  | cons x xs ih => simp [ih]
@[simp, go_sem] theorem underAll_append {n : Nat} {xs ys : List AV} : AV.underAll n (xs ++ ys) = (AV.underAll n xs && AV.underAll n ys) := by
  induction xs with
  | nil => simp
  | cons x xs ih => simp [ih, Bool.and_assoc]
theorem underAll_map {α : Type} {n : Nat} {f : α → AV} {xs : List α} (h : ∀ x ∈ xs, AV.under n (f x) = true) : AV.underAll n (xs.map f) = true := by
  rw [underAll_iff]
  intro y hy
  obtain ⟨x, hx, rfl⟩ := List.mem_map.1 hy
  exact h x hx
@[simp, go_sem] theorem underAll_bools {n : Nat} {xs : List Bool} : AV.underAll n (xs.map AV.bool) = true := underAll_map fun _ _ => rfl
@[simp, go_sem] theorem underAll_ints {n : Nat} {k : IntKind} {xs : List Int} : AV.underAll n (xs.map (AV.int k)) = true := underAll_map fun _ _ => rfl
@[simp, go_sem] theorem underAll_strs {n : Nat} {xs : List ByteArray} : AV.underAll n (xs.map AV.str) = true := underAll_map fun _ _ => rfl
theorem underAll_set {n : Nat} {xs : List AV} {i : Nat} {v : AV} (h : AV.underAll n xs = true) (hv : AV.under n v = true) : AV.underAll n (xs.set i v) = true := by
  rw [underAll_iff] at h ⊢
  intro y hy
  rcases List.mem_or_eq_of_mem_set hy with h1 | rfl
  · exact h y h1
  · exact hv
@[simp, go_sem] theorem underAll_replicate {n m : Nat} {v : AV} : AV.underAll n (List.replicate m v) = (decide (m = 0) || AV.under n v) := by
  induction m with
  | zero => simp
  | succ m ih => simp only [List.replicate_succ, underAll_cons, ih]; cases AV.under n v <;> simp
@[simp, go_sem] theorem obj_row {n v : Nat} {cs : List AV} : AObj.under n (.row v cs) = AV.underAll n cs := rfl
@[simp, go_sem] theorem obj_tip {n m : Nat} : AObj.under n (.tip m) = true := rfl
@[simp, go_sem] theorem obj_map {n : Nat} {es : List (AV × AV)} : AObj.under n (.map es) = es.all fun e => AV.under n e.1 && AV.under n e.2 := rfl
@[simp, go_sem] theorem obj_dead {n : Nat} : AObj.under n .dead = true := rfl

/-! Operations on values. -/
@[simp, go_sem] theorem aLen_str {s : ByteArray} : aLen M 0 (.str s) = some (.int .i64 s.size) := rfl
@[simp, go_sem] theorem aLen_list {g : Tag} {k : Nat} {xs : List AV} : aLen M 1 (.list g k xs) = some (.int .i64 xs.length) := rfl
@[simp, go_sem] theorem aLen_ref {a b c n : Nat} : aLen M 1 (.ref a b c n) = some (.int .i64 n) := rfl

@[simp, go_sem] theorem bin_add {k : IntKind} {a b : Int} : aBin .add (.int k a) (.int k b) = some (.int k (k.wrap (a + b))) := by simp [aBin, aInt]
@[simp, go_sem] theorem bin_sub {k : IntKind} {a b : Int} : aBin .sub (.int k a) (.int k b) = some (.int k (k.wrap (a - b))) := by simp [aBin, aInt]
@[simp, go_sem] theorem bin_mul {k : IntKind} {a b : Int} : aBin .mul (.int k a) (.int k b) = some (.int k (k.wrap (a * b))) := by simp [aBin, aInt]
@[simp, go_sem] theorem bin_eql {k : IntKind} {a b : Int} : aBin .eql (.int k a) (.int k b) = some (.bool (decide (a = b))) := by
  simp only [aBin, aInt, aCmp, if_true]
  by_cases h : a = b <;> simp [h]
@[simp, go_sem] theorem bin_neq {k : IntKind} {a b : Int} : aBin .neq (.int k a) (.int k b) = some (.bool (decide (¬ a = b))) := by
  simp only [aBin, aInt, aCmp, if_true]
  by_cases h : a = b <;> simp [h]
@[simp, go_sem] theorem bin_lss {k : IntKind} {a b : Int} : aBin .lss (.int k a) (.int k b) = some (.bool (decide (a < b))) := by simp [aBin, aInt, aCmp]
@[simp, go_sem] theorem bin_leq {k : IntKind} {a b : Int} : aBin .leq (.int k a) (.int k b) = some (.bool (decide (a ≤ b))) := by simp [aBin, aInt, aCmp]
@[simp, go_sem] theorem bin_gtr {k : IntKind} {a b : Int} : aBin .gtr (.int k a) (.int k b) = some (.bool (decide (b < a))) := by simp [aBin, aInt, aCmp]
@[simp, go_sem] theorem bin_geq {k : IntKind} {a b : Int} : aBin .geq (.int k a) (.int k b) = some (.bool (decide (b ≤ a))) := by simp [aBin, aInt, aCmp]
@[simp, go_sem] theorem un_not {b : Bool} : aUn .not (.bool b) = some (.bool (!b)) := rfl

theorem wrap_id {n : Int} (h1 : -9223372036854775808 ≤ n) (h2 : n < 9223372036854775808) : IntKind.wrap .i64 n = n := by
  rw [IntKind.wrap_i64]; omega

def cptrO (x : Option AV) : Option AV :=
  match x with
  | none => none
  | some x => some (.cptr x)
@[simp ↓, simp, go_sem ↓, go_sem] theorem cptrO_some {x : AV} : cptrO (some x) = some (.cptr x) := rfl
@[simp, go_sem] theorem ia_list {k : Nat} {g : Tag} {xs : List AV} {q : IntKind} {i : Nat} : aIndexAddr M k (.list g k xs) (.int q i) = cptrO xs[i]? := by
  simp only [aIndexAddr, Int.natCast_nonneg, true_and, and_true, Int.ofNat_lt, Int.toNat_natCast]
  by_cases h : i < xs.length
  · simp [h, cptrO]
  · simp [h, cptrO]
@[simp, go_sem] theorem ia_ref {k id ver off len : Nat} {q : IntKind} {i : Nat} : aIndexAddr M k (.ref id ver off len) (.int q i) = if i < len then some (.ptr id ver (off + i * k)) else none := by
  simp [aIndexAddr]

@[simp, go_sem] theorem load_cptr_bool {b : Bool} : Mem.load M none (.cptr (.bool b)) = some (.bool b) := rfl
@[simp, go_sem] theorem load_cptr_int {k : IntKind} {n : Int} : Mem.load M none (.cptr (.int k n)) = some (.int k n) := rfl
@[simp, go_sem] theorem load_cptr_str {s : ByteArray} : Mem.load M none (.cptr (.str s)) = some (.str s) := rfl
@[simp, go_sem] theorem load_cptr_list {g : Tag} {k : Nat} {xs : List AV} : Mem.load M none (.cptr (.list g k xs)) = some (.list g k xs) := rfl
@[simp, go_sem] theorem load_cptr_ref {a b c d : Nat} : Mem.load M none (.cptr (.ref a b c d)) = some (.ref a b c d) := rfl
@[simp, go_sem] theorem load_cptr_one {x : AV} : Mem.load M none (.cptr (.agg [x])) = some x := rfl
@[simp, go_sem] theorem load_cptr_agg {n : Nat} {xs : List AV} : Mem.load M (some n) (.cptr (.agg xs)) = if xs.length = n then some (.agg xs) else none := rfl

def rowL (o : Option AObj) (ver off : Nat) (k : Option Nat) : Option AV :=
  match o with
  | some (.row v cs) => if ver = v then partOf cs off k else none
  | _ => none
@[simp ↓, simp, go_sem ↓, go_sem] theorem rowL_row {v ver off : Nat} {cs : List AV} {k : Option Nat} : rowL (some (.row v cs)) ver off k = if ver = v then partOf cs off k else none := rfl
@[simp, go_sem] theorem load_ptr {id ver off : Nat} {k : Option Nat} : Mem.load M k (.ptr id ver off) = rowL M.objs[id]? ver off k := by
  simp only [Mem.load, rowL]
  cases M.objs[id]? with
  | none => rfl
  | some o => cases o <;> rfl
@[simp, go_sem] theorem partOf_none {cs : List AV} {off : Nat} : partOf cs off none = cs[off]? := rfl
@[simp, go_sem] theorem partOf_some {cs : List AV} {off k : Nat} : partOf cs off (some k) = if off + k ≤ cs.length then some (.agg ((cs.drop off).take k)) else none := rfl
def rowS (M : Mem) (id : Nat) (o : Option AObj) (ver off k : Nat) (v : AV) : Option Mem :=
  match o with
  | some (.row v' cs) => if ver = v' ∧ v.cells.length = k ∧ off + k ≤ cs.length ∧ v.solid then some (M.put id (.row ver (setCells cs off v.cells))) else none
  | _ => none
@[simp ↓, simp, go_sem ↓, go_sem] theorem rowS_row {id v' ver off k : Nat} {cs : List AV} {v : AV} : rowS M id (some (.row v' cs)) ver off k v = if ver = v' ∧ v.cells.length = k ∧ off + k ≤ cs.length ∧ v.solid then some (M.put id (.row ver (setCells cs off v.cells))) else none := rfl
@[simp, go_sem] theorem store_ptr {id ver off k : Nat} {v : AV} : Mem.store M k (.ptr id ver off) v = rowS M id M.objs[id]? ver off k v := by
  simp only [Mem.store, rowS]
  cases M.objs[id]? with
  | none => rfl
  | some o => cases o <;> rfl
theorem setCells_one {cs : List AV} {off : Nat} {v : AV} (h : off < cs.length) : setCells cs off [v] = cs.set off v := by
  simp only [setCells, List.length_cons, List.length_nil]
  rw [List.set_eq_take_append_cons_drop, if_pos h]
  simp

def badP (ok : Bool) (id : Nat) (b : Option Nat) : Option Nat := if ok then b else minBad b (some id)
@[simp, go_sem] theorem badP_true {id : Nat} {b : Option Nat} : badP true id b = b := rfl
@[simp, go_sem] theorem badP_none {id : Nat} : badP false id none = some id := rfl
@[simp, go_sem] theorem badP_some {id a : Nat} : badP false id (some a) = some (min a id) := rfl
theorem push_mk {o : AObj} : M.push o = ⟨M.objs ++ [o], badP (o.under (M.objs.length + 1)) M.objs.length M.bad⟩ := rfl
theorem put_mk {id : Nat} {o : AObj} : M.put id o = ⟨M.objs.set id o, badP (o.under (id + 1)) id M.bad⟩ := rfl
attribute [go_sem] push_mk put_mk
theorem under_ref_pos {n a b c d : Nat} (h : a < n) : AV.under n (.ref a b c d) = true := by simp [h]
theorem under_ref_neg {n a b c d : Nat} (h : ¬ a < n) : AV.under n (.ref a b c d) = false := by simp [h]
theorem under_ptr_pos {n a b c : Nat} (h : a < n) : AV.under n (.ptr a b c) = true := by simp [h]
theorem under_ptr_neg {n a b c : Nat} (h : ¬ a < n) : AV.under n (.ptr a b c) = false := by simp [h]
theorem under_map_pos {n a : Nat} (h : a < n) : AV.under n (.map a) = true := by simp [h]
theorem under_map_neg {n a : Nat} (h : ¬ a < n) : AV.under n (.map a) = false := by simp [h]
theorem under_own_pos {n t k : Nat} {xs : List AV} (h : t < n) : AV.under n (.list (.own t) k xs) = AV.underAll n xs := by simp [h]
theorem under_own_neg {n t k : Nat} {xs : List AV} (h : ¬ t < n) : AV.under n (.list (.own t) k xs) = false := by simp [h]
attribute [go_sem] under_ref_pos under_ref_neg under_ptr_pos under_ptr_neg under_map_pos under_map_neg under_own_pos under_own_neg

def popX (ok : Bool) (n : Nat) (b : Option Nat) (M : Mem) : Mem := if ok then ⟨M.objs.take n, b⟩ else M
@[simp, go_sem] theorem popX_true {n : Nat} {b : Option Nat} : popX true n b M = ⟨M.objs.take n, b⟩ := rfl
@[simp, go_sem] theorem popX_false {n : Nat} {b : Option Nat} : popX false n b M = M := rfl
theorem popAt_some {n : Nat} {b : Option Nat} {env : Env} : popAt (some (n, b)) env M = popX (AV.underAll n (env.map (·.2)) && badOk n M.bad) n b M := rfl
theorem popAt_none {env : Env} : popAt none env M = M := rfl
@[simp, go_sem] theorem badOk_none {n : Nat} : badOk n none = true := rfl
theorem badOk_pos {n b : Nat} (h : n ≤ b) : badOk n (some b) = true := by simp [badOk, h]
theorem badOk_neg {n b : Nat} (h : ¬ n ≤ b) : badOk n (some b) = false := by simp [badOk, h]
def minB (ok : Bool) (n : Nat) (b : Option Nat) (M : Mem) : Mem := if ok then ⟨M.objs.take n, b⟩ else ⟨M.objs, minBad b M.bad⟩
@[simp, go_sem] theorem minB_true {n : Nat} {b : Option Nat} : minB true n b M = ⟨M.objs.take n, b⟩ := rfl
@[simp, go_sem] theorem minB_false {n : Nat} {b : Option Nat} : minB false n b M = ⟨M.objs, minBad b M.bad⟩ := rfl
theorem shrink_pop {n : Nat} {b : Option Nat} {r : AV} : shrink n b true r M = minB (AV.under n r && badOk n M.bad) n b M := by
  simp only [shrink, Bool.true_and, minB]
theorem take_ge {α : Type} {os : List α} {n : Nat} (h : os.length ≤ n) : os.take n = os := List.take_of_length_le h
theorem take_app {α : Type} {xs ys : List α} {k : Nat} : (xs ++ ys).take (xs.length + k) = xs ++ ys.take k := List.take_length_add_append k
theorem take_app0 {α : Type} {xs ys : List α} : (xs ++ ys).take xs.length = xs := by simp
attribute [go_sem] popAt_some popAt_none badOk_pos badOk_neg shrink_pop take_ge take_app take_app0 List.take_succ_cons List.take_zero List.set_cons_zero List.set_cons_succ

theorem setCells_nil {cs : List AV} : setCells cs 0 [] = cs := by simp [setCells]
theorem setCells_zero {c v : AV} {cs vs : List AV} : setCells (c :: cs) 0 (v :: vs) = v :: setCells cs 0 vs := by
  simp [setCells]
theorem setCells_succ {c : AV} {cs vs : List AV} {k : Nat} : setCells (c :: cs) (k + 1) vs = c :: setCells cs k vs := by
  simp only [setCells, List.take_succ_cons, List.cons_append]
  rw [show k + 1 + vs.length = (k + vs.length) + 1 by omega, List.drop_succ_cons]
attribute [go_sem] setCells_nil setCells_zero setCells_succ setCells_one

/-! Slices that grow. -/
@[simp, go_sem] theorem elemsL {k k' : Nat} {g : Tag} {xs : List AV} : Mem.elems M k (.list g k' xs) = if k = k' ∨ xs = [] then some xs else none := rfl
def appT (M : Mem) (t : Nat) (xs : List AV) (y : AV) (o : Option AObj) : Option (AV × Mem) :=
  match o with
  | some (.tip n) => if n = xs.length ∧ y.cells.length = 1 then some (.list (.own t) 1 (xs ++ [y]), M.put t (.tip (n + 1))) else none
  | _ => none
@[simp ↓, simp, go_sem ↓, go_sem] theorem appT_tip {t n : Nat} {xs : List AV} {y : AV} : appT M t xs y (some (.tip n)) = if n = xs.length ∧ y.cells.length = 1 then some (.list (.own t) 1 (xs ++ [y]), M.put t (.tip (n + 1))) else none := rfl
theorem app_own {t bytes : Nat} {xs : List AV} {y : AV} (h1 : (xs.length + 1) * bytes ≤ 140737488355328) (h2 : xs.length + 1 ≤ 140737488355328) : aAppend M 1 bytes (.list (.own t) 1 xs) [y] 0 = appT M t xs y M.objs[t]? := by
  by_cases hy : y.cells.length = 1
  · simp only [aAppend, room, List.length_cons, List.length_nil, List.all_cons, List.all_nil, hy, beq_self_eq_true, Bool.and_true, true_or, h1, h2, Nat.zero_add, true_and, Nat.lt_add_one, and_true, if_true, reduceCtorEq, if_false, appT]
    cases M.objs[t]? with
    | none => rfl
    | some o => cases o <;> simp
  · have e : (y.cells.length == 1) = false := by simp [hy]
    simp only [aAppend, List.all_cons, e, Bool.false_and, Bool.false_eq_true, false_and, and_false, if_false, appT, hy]
    cases M.objs[t]? with
    | none => rfl
    | some o => cases o <;> rfl
attribute [go_sem] app_own

theorem app_get {xs ys : List AObj} : (xs ++ ys)[xs.length]? = ys[0]? := by rw [List.getElem?_append_right (Nat.le_refl _), Nat.sub_self]
theorem app_get_add {xs ys : List AObj} {k : Nat} : (xs ++ ys)[xs.length + k]? = ys[k]? := by rw [List.getElem?_append_right (Nat.le_add_right _ _), Nat.add_sub_cancel_left]
theorem app_set {xs ys : List AObj} {o : AObj} : (xs ++ ys).set xs.length o = xs ++ ys.set 0 o := by rw [List.set_append_right _ _ (Nat.le_refl _), Nat.sub_self]
theorem app_set_add {xs ys : List AObj} {k : Nat} {o : AObj} : (xs ++ ys).set (xs.length + k) o = xs ++ ys.set k o := by rw [List.set_append_right _ _ (Nat.le_add_right _ _), Nat.add_sub_cancel_left]

theorem rep_one {z : AV} {n : Nat} : rep [z] n = List.replicate n z := by
  induction n with
  | zero => rfl
  | succ n ih => simp [rep, ih, List.replicate_succ]

/-! A call. -/

def oneL (v : Option AV) (us : Option (List AV)) : Option (List AV) := consA v us
def finL (n : Nat) (b : Option Nat) (pop keep : Bool) (rs : Option (List AV)) (M' : Mem) : Option (AV × Mem) :=
  match rs with
  | none => none
  | some rs => some (if keep then packRes rs else (packRes rs).untag, shrink n b pop (if keep then packRes rs else (packRes rs).untag) M')
@[simp ↓, simp, go_sem ↓, go_sem] theorem finL_some {n : Nat} {b : Option Nat} {pop : Bool} {rs : List AV} {M' : Mem} : finL n b pop false (some rs) M' = some ((packRes rs).untag, shrink n b pop (packRes rs).untag M') := rfl
@[simp ↓, simp, go_sem ↓, go_sem] theorem finL_keep {n : Nat} {b : Option Nat} {pop : Bool} {rs : List AV} {M' : Mem} : finL n b pop true (some rs) M' = some (packRes rs, shrink n b pop (packRes rs) M') := rfl

noncomputable def fin (fn : IFn) (n : Nat) (b : Option Nat) (r : Res) : Option (AV × Mem) :=
  match r with
  | some (.nrm, env, M') | some (.ret, env, M') => finL n b fn.pop fn.keep (resVal env M' fn.res) M'
  | _ => none
@[simp ↓, simp, go_sem ↓, go_sem] theorem fin_nrm {fn : IFn} {n : Nat} {b : Option Nat} {env : Env} {M' : Mem} : fin fn n b (some (.nrm, env, M')) = finL n b fn.pop fn.keep (resVal env M' fn.res) M' := rfl
@[simp ↓, simp, go_sem ↓, go_sem] theorem fin_ret {fn : IFn} {n : Nat} {b : Option Nat} {env : Env} {M' : Mem} : fin fn n b (some (.ret, env, M')) = finL n b fn.pop fn.keep (resVal env M' fn.res) M' := rfl
theorem fin_ite {fn : IFn} {n : Nat} {b : Option Nat} {p : Prop} [Decidable p] {a c : Res} : fin fn n b (if p then a else c) = if p then fin fn n b a else fin fn n b c := by split <;> rfl

theorem Call_fn {f : Nat} {fn : IFn} (hf : T f = some fn) {args : List AV} (hl : args.length = fn.params) (ho : fn.orc args M = none := by rfl) : Call T f args M = fin fn M.objs.length M.bad (Ev T fn.body (paramEnv 0 args) ⟨M.objs, none⟩) := by
  rw [call_fn hf]
  unfold runFn fin
  rw [ho]
  simp only
  rw [if_pos hl]
  cases Ev T fn.body (paramEnv 0 args) ⟨M.objs, none⟩ with
  | none => rfl
  | some r =>
    obtain ⟨x, env, M'⟩ := r
    cases x with
    | ext i => rfl
    | nrm => simp only [finL]; cases resVal env M' fn.res <;> rfl
    | ret => simp only [finL]; cases resVal env M' fn.res <;> rfl

/-- A call that was told ahead. -/
theorem Call_orc {f : Nat} {fn : IFn} (hf : T f = some fn) {args : List AV} {r : AV × Mem} (ho : fn.orc args M = some r) : Call T f args M = some r := by
  rw [call_fn hf]
  unfold runFn
  rw [ho]

@[simp, go_sem] theorem paramEnv_nil {i : Nat} : paramEnv i [] = [] := rfl
@[simp, go_sem] theorem paramEnv_cons {i : Nat} {v : AV} {vs : List AV} : paramEnv i (v :: vs) = (i, v) :: paramEnv (i + 1) vs := rfl
@[simp, go_sem] theorem resVal_nil {env : Env} : resVal env M [] = some [] := rfl
@[simp, go_sem] theorem resVal_tmp {env : Env} {s : Nat} {rs : List (Nat × Option (Option Nat))} : resVal env M ((s, none) :: rs) = consA (env.get s) (resVal env M rs) := by
  simp only [resVal, consA]
  cases env.get s with
  | none => rfl
  | some v => simp only; cases resVal env M rs <;> rfl
@[simp, go_sem] theorem resVal_cell {env : Env} {s : Nat} {k : Option Nat} {rs : List (Nat × Option (Option Nat))} : resVal env M ((s, some k) :: rs) = consA (ap1 (M.load k) (env.get s)) (resVal env M rs) := by
  simp only [resVal, consA, ap1]
  cases env.get s with
  | none => rfl
  | some v =>
    simp only
    cases M.load k v with
    | none => rfl
    | some u => simp only; cases resVal env M rs <;> rfl
@[simp, go_sem] theorem packRes_one {v : AV} : packRes [v] = v := rfl
@[simp, go_sem] theorem packRes_nil : packRes [] = .tuple [] := rfl
@[simp, go_sem] theorem packRes_more {u v : AV} {vs : List AV} : packRes (u :: v :: vs) = .tuple (u :: v :: vs) := rfl

@[simp, go_sem] theorem mid_get {α β : Type} {f : α → β} {pre : List α} {y : β} {ys : List β} : (pre.map f ++ y :: ys)[pre.length]? = some y := by
  rw [List.getElem?_append_right (by simp)]; simp
attribute [go_sem] app_get app_get_add app_set app_set_add
attribute [go_sem] condE_pos condE_neg guardR_pos guardR_neg guardR_posF guardR_negF guardP_pos guardP_neg guardP_posF guardP_negF pickV_pos pickV_neg List.map_nil List.map_cons List.map_append List.length_map List.length_cons List.length_nil List.length_append List.append_nil List.nil_append List.cons_append List.append_assoc Option.map_some Option.map_none List.length_replicate List.map_replicate List.length_set
attribute [go_sem] List.take_length List.set_set Int.toNat_natCast and_true true_and Bool.and_true Bool.true_and Bool.false_and Bool.and_false Nat.add_zero Nat.zero_add Nat.mul_one Nat.one_mul List.getElem?_cons_zero List.getElem?_cons_succ decide_true decide_false Bool.not_true Bool.not_false Nat.add_one_ne_zero

end Go.Am
