/- An abstract machine for the part of Go that this program uses: the runs of clear, and of the address of an array's element. -/
import Derived.Test.YtdddcofggemnkaaAmOps11
import GoSem.Builtin.Clear
namespace Go.Am
set_option linter.all false
open Go Go.RowKit

def okElemA (P : Program) (t : TypeId) (n k : Nat) : Bool :=
  match P.underlying t with
  | some (.array n' e) => n' == n && okSize P e k
  | _ => false

def okClear (P : Program) (t : TypeId) (k : Nat) (zero : List AV) : Bool :=
  match P.underlying t with
  | some (.slice e) => okSize P e k && okZero P e zero
  | _ => false

section
variable {P : Program} {w0 : Base} {w : World} {s : Sim} {M : Mem}

theorem indexAddrA_run {t : TypeId} {n k : Nat} {x i v : AV} {xv iv : Value} (hk : okElemA P t n k = true) (hx : VR s x xv) (hi : VR s i iv) (h : aIndexAddrA n k x i = some v) :
    ∃ u, (Instr.indexAt t xv iv).run P w = .ok u w ∧ VR s v u := by
  unfold okElemA at hk
  split at hk
  · rename_i n' e he
    simp only [Bool.and_eq_true, beq_iff_eq] at hk
    obtain ⟨rfl, hk⟩ := hk
    obtain ⟨hsz, hk0⟩ := okSize_some hk
    unfold aIndexAddrA at h
    split at h
    · rename_i y ki j
      split at h
      · rename_i hc
        obtain ⟨h0, h1, hle⟩ := hc
        simp only [Option.some.injEq] at h; subst h
        cases hi
        cases hx with
        | cptr _ b o vs hp hf hv =>
          refine ⟨.pointer (some ⟨b, o + j.toNat * k, none⟩), ?_, ?_⟩
          · simp [Instr.indexAt, asIntOf, run_underlying he, h0, h1, run_sizeOf hsz, Addr.add_lit, Instr.sureAddr]
          · have hg : ∀ q c, ((y.cells.drop (j.toNat * k)).take k)[q]? = some c → y.cells[j.toNat * k + q]? = some c := fun q c hc => by
              rw [List.getElem?_take] at hc
              split at hc
              · rwa [List.getElem?_drop] at hc
              · cases hc
            refine .cptr _ b (o + j.toNat * k) (fun q => vs (j.toNat * k + q)) ?_ (fun q c hc => ?_) fun q c hc => hv _ c (hg q c hc)
            · show 0 < ((y.cells.drop (j.toNat * k)).take k).length
              simp only [List.length_take, List.length_drop]; omega
            · rw [Nat.add_assoc]; exact hf _ c (hg q c hc)
      · cases h
    · rename_i id ver off ki j
      split at h
      · rename_i hc
        obtain ⟨h0, h1⟩ := hc
        simp only [Option.some.injEq] at h; subst h
        cases hi
        cases hx with
        | ptr _ _ _ b ver' b' nz hl hv hb =>
          refine ⟨.pointer (some ⟨b, off + j.toNat * k, none⟩), ?_, .ptr _ _ _ b ver' b' nz hl hv hb⟩
          simp [Instr.indexAt, asIntOf, run_underlying he, h0, h1, run_sizeOf hsz, Addr.add_lit, Instr.sureAddr]
      · cases h
    · cases h
  · cases hk

theorem clear_run (hm : MR w0 s M w) {t ty : TypeId} {k : Nat} {zero : List AV} {x : AV} {xv : Value} {M' : Mem} (hok : okClear P t k zero = true) (hx : VR s x xv) (h : aClear M k zero x = some M') :
    ∃ w' s', (Builtin.clear_ #[t] ty #[xv]).run P w = .ok (.tuple #[]) w' ∧ s.le s' ∧ MR w0 s' M' w' := by
  unfold okClear at hok
  split at hok
  · rename_i e he
    simp only [Bool.and_eq_true] at hok
    obtain ⟨hk, hz⟩ := hok
    obtain ⟨hsz, hk0⟩ := okSize_some hk
    obtain ⟨z, hz1, hz2⟩ := run_zeroValue (w := w) hz
    unfold aClear at h
    split at h
    · rename_i id ver off len
      cases hx with
      | ref _ _ _ _ b2 cap ver2 b' nz hl hv hb hcap hzz =>
        split at h
        · rename_i h0
          subst h0
          simp only [Option.some.injEq] at h; subst h
          exact ⟨w, s, by simp [Builtin.clear_, run_underlying he], .refl s, hm⟩
        · rename_i h0
          split at h
          · rename_i ver' cs hid
            split at h
            · rename_i hc
              obtain ⟨rfl, hle, hzl, _⟩ := hc
              simp only [Option.some.injEq] at h; subst h
              obtain ⟨b, c, e0, h1, h2, h3, h4, h5⟩ := hm.obj id _ hid
              have hidl : id < M.objs.length := (List.getElem?_eq_some_iff.1 hid).1
              rw [h1] at hl
              cases hl
              have := hb rfl
              simp only [Option.some.injEq] at this
              subst this
              have hz3 : CR s zero z.cells := by have := CR.of_okConsts (s := s) hz2; simpa using this
              have hcr := hz3.rep len k hzl hk0
              have hzs : z.cells.size = k := by rw [← hz3.len, hzl]
              have hzeq : Builtin.zeroCells z.cells len = (Array.range (len * k)).map (z.cells[· % z.cells.size]!) := by
                unfold Builtin.zeroCells; rw [hzs]
              have hvl : (Builtin.zeroCells z.cells len).toList.length = len * k := by rw [hzeq]; simp
              have hrl : (rep zero len).length = len * k := by rw [length_rep, hzl]
              have hone : ∀ v ∈ (Builtin.zeroCells z.cells len).toList, v.oneCell' = true := fun v hv => by
                rw [one_iff]
                obtain ⟨i, hi⟩ := List.getElem?_of_mem hv
                have hlt := (List.getElem?_eq_some_iff.1 hi).1
                rw [hvl] at hlt
                rw [hzeq] at hi
                exact (hcr.get i _ v (List.getElem?_eq_getElem (by rw [hrl]; exact hlt)) (by rw [← Array.getElem?_toList]; exact hi)).2
              have hst := run_storeCells_at P b off e0 (Builtin.zeroCells z.cells len).toList 0 c w h2 (by rw [hvl]; omega) hone
              simp only [Nat.add_zero] at hst
              have hlen1 : len ≠ 0 := h0
              refine ⟨w.setRow b (c.toList.take off ++ (Builtin.zeroCells z.cells len).toList ++ c.toList.drop (off + (Builtin.zeroCells z.cells len).toList.length)).toArray, { fz := s.fz, loc := (s.setLoc id (.row ver (some b) c.size)).loc, defs := s.defs }, ?_, ?_⟩
              · obtain ⟨l', rfl⟩ : ∃ l', len = l' + 1 := ⟨len - 1, by omega⟩
                simp only [Builtin.clear_, Sem.run_bind, run_underlying he, Result.andThen_ok, hz1, List.getElem?_toArray, List.getElem?_cons_zero]
                rw [hst]
                simp
              · have hB : w0.heap.size ≤ b := hm.own id _ b h1 rfl
                have hsz2 : (c.toList.take off ++ (Builtin.zeroCells z.cells len).toList ++ c.toList.drop (off + (Builtin.zeroCells z.cells len).toList.length)).toArray.size = c.size := by
                  simp only [List.size_toArray, List.length_append, List.length_take, List.length_drop, Array.length_toList]
                  rw [Array.length_toList] at hvl
                  omega
                have mono : s.le { fz := s.fz, loc := (s.setLoc id (.row ver (some b) c.size)).loc, defs := s.defs } := ⟨fun _ _ _ h => h, fun i l hl => ⟨l, by
                  simp only [Sim.setLoc]
                  split
                  · rename_i e; subst e; rw [h1] at hl; exact hl
                  · exact hl, l.le_refl⟩, fun _ h => h⟩
                have hmain := hm.setObj hidl (.row ver (setCells cs off (rep zero len))) (.row ver (some b) c.size) h1 (Loc.le_refl _)
                  (w.setRow b (c.toList.take off ++ (Builtin.zeroCells z.cells len).toList ++ c.toList.drop (off + (Builtin.zeroCells z.cells len).toList.length)).toArray) s.fz (fun _ _ _ h => h) (fun _ _ _ => rfl)
                  (fun b' hb' _ => setRow_other w b b' _ (fun e => hb' (by rw [e]; rfl))) (below_setRow hm.below hB _)
                  (fun b' hb' => ⟨by cases hb'; exact hB, .inl hb'⟩)
                  (fun b' o v hb' hf => by cases hb'; rw [h5 o] at hf; cases hf)
                  ⟨b, _, e0, by rw [hsz2]; simp [Sim.setLoc], setRow_heap w b c _ e0 _ h2, by rw [hsz2, length_setCells (by rw [hrl]; exact hle)]; exact h3, fun i y v hy hv => by
                    rw [setCells_get (by rw [hrl]; exact hle), hrl] at hy
                    have hv' : (c.toList.take off ++ (Builtin.zeroCells z.cells len).toList ++ c.toList.drop (off + (Builtin.zeroCells z.cells len).toList.length))[i]? = some v := by simpa using hv
                    rw [spliced_get (by rw [hvl]; simp; omega), hvl] at hv'
                    split at hy
                    · rename_i hin
                      rw [if_pos hin] at hv'
                      rw [hzeq] at hv'
                      have := hcr.get (i - off) y v hy (by rw [← Array.getElem?_toList]; exact hv')
                      exact ⟨this.1.mono mono, this.2⟩
                    · rename_i hin
                      rw [if_neg hin] at hv'
                      exact ⟨(h4 i y v hy (by simpa using hv')).1.mono mono, (h4 i y v hy (by simpa using hv')).2⟩, h5⟩ none
                exact ⟨hmain.1, hm.put_of hmain.2⟩
            · cases h
          · cases h
    · simp only [Option.some.injEq] at h; subst h
      refine ⟨w, s, ?_, .refl s, hm⟩
      cases hx with
      | nil => simp [Builtin.clear_, run_underlying he]
      | void => simp [Builtin.clear_, run_underlying he]
      | list => simp [Builtin.clear_, run_underlying he]
    · cases h
  · cases hok

end
end Go.Am
