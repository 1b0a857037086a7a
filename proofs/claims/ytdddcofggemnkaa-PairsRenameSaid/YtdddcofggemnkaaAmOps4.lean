/- An abstract machine for the part of Go that this program uses: the runs of parts, addresses, literals. -/
import Derived.Test.YtdddcofggemnkaaAmOps3
namespace Go.Am
set_option linter.all false
open Go Go.RowKit

section
variable {P : Program} {w0 : Base} {w : World} {s : Sim} {M : Mem}

theorem part_run {t : TypeId} {k : Option Nat} {xs : List AV} {cs : Array Value} {off : Nat} {v : AV} (hk : okPart P t k = true) (hx : VR s (.agg xs) (.agg cs)) (h : partOf xs off k = some v) :
    ∃ u, (part t cs off).run P w = .ok u w ∧ VR s v u := by
  cases hx with
  | agg _ vs hl ho hc =>
    rcases okPart_cases hk with ⟨rfl, ha, hs⟩ | ⟨n, rfl, ha, hs, hn⟩
    · simp only [partOf] at h
      have hlt : off < vs.length := by rw [← hl]; exact (List.getElem?_eq_some_iff.1 h).1
      refine ⟨vs[off], ?_, hc off v _ h (List.getElem?_eq_getElem hlt)⟩
      simp [part, run_isAgg ha, List.getElem?_eq_getElem hlt]
    · simp only [partOf] at h
      split at h
      · rename_i hle
        simp only [Option.some.injEq] at h; subst h
        refine ⟨.agg (vs.toArray.extract off (off + n)), ?_, ?_⟩
        · simp only [part, Sem.run_bind, run_isAgg ha, Result.andThen_ok, if_true, run_sizeOf hs, Sem.run_pure]
        · have e : vs.toArray.extract off (off + n) = ((vs.drop off).take n).toArray := by
            apply Array.ext'
            simp [List.extract_eq_take_drop]
          rw [e]
          refine .agg _ _ (by simp [hl]) (fun v hv => ho v (List.mem_of_mem_drop (List.mem_of_mem_take hv))) fun i x v hx hv => ?_
          rw [List.getElem?_take] at hx hv
          split at hx
          · rename_i hi
            rw [if_pos hi] at hv
            rw [List.getElem?_drop] at hx hv
            exact hc _ x v hx hv
          · cases hx
      · cases h

def okField (P : Program) (t : TypeId) (f off : Nat) (k : Option Nat) : Bool :=
  match P.underlying t with
  | some (.struct fs) => match fs[f]? with
    | some fd => fd.offset == off && okPart P fd.type k
    | none => false
  | _ => false

theorem field_run {t : TypeId} {f off : Nat} {k : Option Nat} {xs : List AV} {xv : Value} {v : AV} (hk : okField P t f off k = true) (hx : VR s (.agg xs) xv) (h : partOf xs off k = some v) :
    ∃ u, (Instr.field t xv f).run P w = .ok u w ∧ VR s v u := by
  unfold okField at hk
  split at hk
  · rename_i fs hfs
    split at hk
    · rename_i fd hfd
      simp only [Bool.and_eq_true, beq_iff_eq] at hk
      obtain ⟨rfl, hk⟩ := hk
      obtain ⟨cs, rfl⟩ : ∃ cs, xv = .agg cs := by cases hx; exact ⟨_, rfl⟩
      obtain ⟨u, h1, h2⟩ := part_run (w := w) hk hx h
      exact ⟨u, by simp [Instr.field, run_underlying hfs, hfd, asAgg, h1], h2⟩
    · cases hk
  · cases hk

def okFieldAddr (P : Program) (t : TypeId) (f off k : Nat) : Bool :=
  match P.underlying t with
  | some (.struct fs) => match fs[f]? with
    | some fd => fd.offset == off && okSize P fd.type k
    | none => false
  | _ => false

theorem fieldAddr_run {t : TypeId} {f off k : Nat} {x v : AV} {xv : Value} (hk : okFieldAddr P t f off k = true) (hx : VR s x xv) (h : aFieldAddr off k x = some v) :
    ∃ u, (Instr.fieldAt t xv f).run P w = .ok u w ∧ VR s v u := by
  unfold okFieldAddr at hk
  split at hk
  · rename_i fs hfs
    split at hk
    · rename_i fd hfd
      simp only [Bool.and_eq_true, beq_iff_eq] at hk
      obtain ⟨rfl, hk⟩ := hk
      obtain ⟨hsz, hk0⟩ := okSize_some hk
      have hrun : ∀ b o, (Instr.fieldAt t (.pointer (some ⟨b, o, none⟩)) f).run P w = .ok (.pointer (some ⟨b, o + fd.offset, none⟩)) w := fun b o => by
        simp only [Instr.fieldAt, Sem.run_bind, run_underlying hfs, Result.andThen_ok, hfd, Instr.sureAddr, Sem.run_pure, fieldPlace, run_sizeOf hsz]
        rw [if_neg (by omega)]
        simp [Addr.add_lit]
      unfold aFieldAddr at h
      split at h
      · rename_i y
        split at h
        · rename_i hle
          simp only [Option.some.injEq] at h; subst h
          cases hx with
          | cptr _ b o vs h0 hf hv =>
            refine ⟨_, hrun b o, ?_⟩
            have hg : ∀ j c, ((y.cells.drop fd.offset).take k)[j]? = some c → y.cells[fd.offset + j]? = some c := fun j c hc => by
              rw [List.getElem?_take] at hc
              split at hc
              · rwa [List.getElem?_drop] at hc
              · cases hc
            refine .cptr _ b (o + fd.offset) (fun j => vs (fd.offset + j)) ?_ (fun j c hc => ?_) fun j c hc => hv _ c (hg j c hc)
            · show 0 < ((y.cells.drop fd.offset).take k).length
              simp only [List.length_take, List.length_drop]; omega
            · rw [Nat.add_assoc]; exact hf _ c (hg j c hc)
        · cases h
      · rename_i id ver o
        simp only [Option.some.injEq] at h; subst h
        cases hx with
        | ptr _ _ _ b ver' b' n hl hv hb => exact ⟨_, hrun b o, .ptr _ _ _ b ver' b' n hl hv hb⟩
      · cases h
    · cases hk
  · cases hk

def okElem (P : Program) (t : TypeId) (k : Nat) : Bool :=
  match P.underlying t with
  | some (.slice e) => okSize P e k
  | _ => false

theorem okElem_some {t : TypeId} {k : Nat} (h : okElem P t k = true) : ∃ e, P.underlying t = some (.slice e) ∧ szOf P e = some k ∧ 0 < k := by
  unfold okElem at h
  split at h
  · rename_i e he
    exact ⟨e, he, okSize_some h⟩
  · cases h

theorem indexAddr_run {t : TypeId} {k : Nat} {x i v : AV} {xv iv : Value} (hk : okElem P t k = true) (hx : VR s x xv) (hi : VR s i iv) (h : aIndexAddr M k x i = some v) :
    ∃ u, (Instr.indexAt t xv iv).run P w = .ok u w ∧ VR s v u := by
  obtain ⟨e, he, hsz, hk0⟩ := okElem_some hk
  unfold aIndexAddr at h
  split at h
  · rename_i g k' xs ki n
    split at h
    · rename_i hc
      obtain ⟨h0, h1, rfl⟩ := hc
      split at h
      · rename_i y hy
        simp only [Option.some.injEq] at h; subst h
        cases hi
        cases hx with
        | nil => simp at hy
        | void => simp at hy
        | list _ _ _ b o cap vs hcap hkk hf hv hown ht =>
          refine ⟨.pointer (some ⟨b, o + n.toNat * k, none⟩), ?_, ?_⟩
          · simp [Instr.indexAt, asIntOf, run_underlying he, h0, h1, run_sizeOf hsz, Addr.add_lit]
          · refine .cptr y b _ (fun j => vs n.toNat j) ?_ (fun j c hc => hf _ y j c hy hc) fun j c hc => hv _ y j c hy hc
            rw [hkk _ _ hy]; exact hk0
      · cases h
    · cases h
  · rename_i id ver off len ki n
    split at h
    · rename_i hc
      obtain ⟨h0, h1⟩ := hc
      simp only [Option.some.injEq] at h; subst h
      cases hi
      cases hx with
      | ref _ _ _ _ b cap ver' b' nz hl hv hb hcap hz =>
        refine ⟨.pointer (some ⟨b, off + n.toNat * k, none⟩), ?_, .ptr _ _ _ b ver' b' nz hl hv hb⟩
        simp [Instr.indexAt, asIntOf, run_underlying he, h0, h1, run_sizeOf hsz, Addr.add_lit]
    · cases h
  · cases h

def okIndex (P : Program) (t : TypeId) (k : Option (Nat × Nat × Bool)) : Bool :=
  match P.underlying t, k with
  | some .string, none => true
  | some (.array n e), some (n', size, isAgg) => n == n' && szOf P e == some size && okPart P e (if isAgg then some size else none)
  | _, _ => false

theorem index_run {t : TypeId} {k : Option (Nat × Nat × Bool)} {x i v : AV} {xv iv : Value} (hk : okIndex P t k = true) (hx : VR s x xv) (hi : VR s i iv) (h : aIndex k x i = some v) :
    ∃ u, (Instr.index t xv iv).run P w = .ok u w ∧ VR s v u := by
  unfold okIndex at hk
  split at hk
  · rename_i ht
    unfold aIndex at h
    split at h
    · rename_i b ki n
      split at h
      · rename_i h0
        split at h
        · rename_i c hc
          simp only [Option.some.injEq] at h; subst h
          rw [hx.str_inv, hi.int_inv]
          exact ⟨_, by simp [Instr.index, asIntOf, run_underlying ht, h0, hc], .int _ _⟩
        · cases h
      · cases h
    · rename_i e; cases e
    · cases h
  · rename_i n e n' size isAgg ht
    simp only [Bool.and_eq_true, beq_iff_eq] at hk
    obtain ⟨⟨rfl, hsz⟩, hp⟩ := hk
    unfold aIndex at h
    split at h
    · rename_i e; cases e
    · rename_i len size' isAgg' xs ki m e
      simp only [Option.some.injEq, Prod.mk.injEq] at e
      obtain ⟨rfl, rfl, rfl⟩ := e
      split at h
      · rename_i hc
        obtain ⟨h0, h1⟩ := hc
        rw [hi.int_inv]
        obtain ⟨cs, rfl⟩ : ∃ cs, xv = .agg cs := by cases hx; exact ⟨_, rfl⟩
        obtain ⟨u, h2, h3⟩ := part_run (w := w) hp hx h
        exact ⟨u, by simp [Instr.index, asIntOf, run_underlying ht, h0, h1, run_sizeOf hsz, h2], h3⟩
      · cases h
    · cases h
  · cases hk

theorem nilCheck_run {x : AV} {xv : Value} (hx : VR s x xv) (h : (∃ a b c, x = .ptr a b c) ∨ (∃ y, x = .cptr y) ∨ (∃ g a b, x = .func g a b) ∨ (∃ id, x = .yield id)) (o : Oper) (y : Operand) (ho : o.op = .nilCheck y) (ρ : Operand → Value) (hy : ρ y = xv) :
    (execOp ρ o).run P w = .ok (.value xv) w := by
  rcases h with ⟨a, b, c, rfl⟩ | ⟨z, rfl⟩ | ⟨g, a, b, rfl⟩ | ⟨id, rfl⟩ <;> cases hx <;> simp [execOp, ho, hy]

theorem extract_run {xs : List AV} {i : Nat} {v : AV} {xv : Value} (hx : VR s (.tuple xs) xv) (h : xs[i]? = some v) : ∃ u, (Instr.extract xv i).run P w = .ok u w ∧ VR s v u := by
  cases hx with
  | tuple _ vs hl hc =>
    have hlt : i < vs.length := by rw [← hl]; exact (List.getElem?_eq_some_iff.1 h).1
    exact ⟨vs[i], by simp [Instr.extract, List.getElem?_eq_getElem hlt], hc i v _ h (List.getElem?_eq_getElem hlt)⟩

end
end Go.Am
