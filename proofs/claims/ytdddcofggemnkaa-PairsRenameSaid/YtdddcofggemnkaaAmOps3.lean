/- An abstract machine for the part of Go that this program uses: the runs of stores and of what makes memory. -/
import Derived.Test.YtdddcofggemnkaaAmOps2
import Derived.Laws.CopyOwn
namespace Go.Am
set_option linter.all false
open Go Go.RowKit

section
variable {P : Program} {w0 : Base} {w : World} {s : Sim} {M : Mem}

theorem MR.put_of (h : MR w0 s M w) {id : Nat} {o : AObj} {s' : Sim} {w' : World} (hm : MR w0 s' { objs := M.objs.set id o, bad := none } w') : MR w0 s' (M.put id o) w' :=
  bad_irrel hm _

theorem okSize_some {t : TypeId} {k : Nat} (h : okSize P t k = true) : szOf P t = some k ∧ 0 < k := by
  unfold okSize at h
  split at h
  · rename_i n hn
    simp only [Bool.and_eq_true, beq_iff_eq, decide_eq_true_eq] at h
    obtain ⟨rfl, h2⟩ := h
    exact ⟨hn, h2⟩
  · cases h

theorem solid_tuple {x : AV} (h : x.solid = true) : ∀ xs, x ≠ .tuple xs := by
  rintro xs rfl; cases h

theorem store_run (hm : MR w0 s M w) {t : TypeId} {k : Nat} {p x : AV} {pv xv : Value} {M' : Mem} (hk : okSize P t k = true) (hp : VR s p pv) (hx : VR s x xv) (h : M.store k p x = some M') :
    ∃ w' s', (Instr.storeAt t pv xv).run P w = .ok () w' ∧ s.le s' ∧ MR w0 s' M' w' := by
  unfold Mem.store at h
  split at h
  · rename_i id ver off
    split at h
    · rename_i ver' cs hid
      split at h
      · rename_i hc
        obtain ⟨hver, hlen, hle, hsolid⟩ := hc
        subst hver
        simp only [Option.some.injEq] at h; subst h
        obtain ⟨b, c, e, h1, h2, h3, h4, h5⟩ := hm.obj id _ hid
        have hidl : id < M.objs.length := (List.getElem?_eq_some_iff.1 hid).1
        cases hp with
        | ptr _ _ _ b2 ver2 b' n hl hv hb =>
          rw [h1] at hl
          cases hl
          have := hb rfl
          simp only [Option.some.injEq] at this
          subst this
          obtain ⟨hsz, hk0⟩ := okSize_some hk
          obtain ⟨hcl, hcv⟩ := hx.cells
          have hone := hx.cells_one (solid_tuple hsolid)
          have hsize : xv.cells.size = k := by omega
          have hst := run_storeCells_at P b off e xv.cells.toList 0 c w h2 (by simp; omega) (fun v hv => by rw [one_iff]; exact hone v hv)
          simp only [Nat.add_zero] at hst
          have hrun : (Instr.storeAt t (.pointer (some ⟨b, off, none⟩)) xv).run P w = .ok () (w.setRow b (c.toList.take off ++ xv.cells.toList ++ c.toList.drop (off + xv.cells.toList.length)).toArray) := by
            simp only [Instr.storeAt, Instr.sureAddr, storeVar, Sem.run_bind, Sem.run_pure, Result.andThen_ok, run_sizeOf hsz]
            rw [if_neg (by simp; omega)]
            exact hst
          refine ⟨_, ?_, hrun, ?_⟩
          · exact { fz := s.fz, loc := (s.setLoc id (.row ver (some b) c.size)).loc, defs := s.defs }
          have hB : w0.heap.size ≤ b := hm.own id _ b h1 rfl
          have hmain := hm.setObj hidl (.row ver (setCells cs off x.cells)) (.row ver (some b) c.size) h1 (Loc.le_refl _)
            (w.setRow b (c.toList.take off ++ xv.cells.toList ++ c.toList.drop (off + xv.cells.toList.length)).toArray) s.fz (fun _ _ _ h => h) (fun _ _ _ => rfl)
            (fun b' hb' _ => setRow_other w b b' _ (fun e => hb' (by rw [e]; rfl))) (below_setRow hm.below hB _)
            (fun b' hb' => ⟨by cases hb'; exact hB, .inl hb'⟩)
            (fun b' o v hb' hf => by cases hb'; rw [h5 o] at hf; cases hf) ?_ none
          · exact ⟨hmain.1, hm.put_of hmain.2⟩
          · have hsz2 : (c.toList.take off ++ xv.cells.toList ++ c.toList.drop (off + xv.cells.toList.length)).toArray.size = c.size := by
              simp only [List.size_toArray, List.length_append, List.length_take, List.length_drop, Array.length_toList]
              omega
            refine ⟨b, _, e, by rw [hsz2]; simp [Sim.setLoc], setRow_heap w b c _ e _ h2, ?_, fun i y v hy hv => ?_, h5⟩
            · have := length_setCells (cs := cs) (xs := x.cells) (off := off) (by omega)
              simp only [List.size_toArray, List.length_append, List.length_take, List.length_drop, Array.length_toList]
              omega
            · have hle2 : off + x.cells.length ≤ cs.length := by omega
              rw [setCells_get hle2] at hy
              have hv' : (c.toList.take off ++ xv.cells.toList ++ c.toList.drop (off + xv.cells.toList.length))[i]? = some v := by simpa using hv
              rw [spliced_get (by simp; omega)] at hv'
              have mono : s.le { fz := s.fz, loc := (s.setLoc id (.row ver (some b) c.size)).loc, defs := s.defs } := ⟨fun _ _ _ h => h, fun i l hl => ⟨l, by
                simp only [Sim.setLoc]
                split
                · rename_i e; subst e; rw [h1] at hl; exact hl
                · exact hl, l.le_refl⟩, fun _ h => h⟩
              by_cases hin : off ≤ i ∧ i < off + x.cells.length
              · rw [if_pos hin] at hy
                rw [if_pos (by simp; omega)] at hv'
                exact ⟨(hcv (i - off) y v hy (by simpa using hv')).mono mono, hone v (List.mem_of_getElem? hv')⟩
              · rw [if_neg hin] at hy
                rw [if_neg (by simp; omega)] at hv'
                exact ⟨(h4 i y v hy (by simpa using hv')).1.mono mono, (h4 i y v hy (by simpa using hv')).2⟩
      · cases h
    · cases h
  · cases h

/-- A new variable. -/
theorem newRow_run (hm : MR w0 s M w) (t : TypeId) (cs : List AV) (c : Array Value) (hl : c.size = cs.length)
    (hv : ∀ (i : Nat) (x : AV) (v : Value), cs[i]? = some x → c[i]? = some v → VR s x v ∧ one v = true) :
    ∃ s', s.le s' ∧ MR w0 s' (M.newRow cs).2 (w.alloc (.cells c t)) ∧ VR s' (M.newRow cs).1 (.pointer (some ⟨w.heap.size, 0, none⟩)) ∧
      s'.loc M.objs.length = some (.row 0 (some w.heap.size) c.size) :=
  ⟨_, le_setLoc_new hm _, hm.newRow cs c t hl hv, .ptr _ 0 0 w.heap.size 0 (some w.heap.size) _ (setLoc_self _ _ _) (Nat.le_refl _) (fun _ => rfl), setLoc_self _ _ _⟩

theorem run_newVar (t : TypeId) (v : Value) : (newVar t v).run P w = .ok ⟨w.heap.size, 0, none⟩ (w.alloc (.cells v.cells t)) := by
  simp [newVar, newRow]

theorem okConsts_size {xs : List Value} {ys : List AV} (h : okConsts xs ys = true) : ys.length = xs.length := (okConsts_ok (s := ⟨fun _ _ => none, fun _ => none, fun _ => False⟩) h).1

theorem alloc_run (hm : MR w0 s M w) {t : TypeId} {cs : List AV} (h : okZero P t cs = true) :
    ∃ s' u, s.le s' ∧ MR w0 s' (M.newRow cs).2 u ∧ ∃ v, (Instr.alloc t true (.tuple #[])).run P w = .ok v u ∧ VR s' (M.newRow cs).1 v := by
  obtain ⟨z, hz, hc⟩ := run_zeroValue (w := w) h
  obtain ⟨h1, h2, h3⟩ := okConsts_ok (s := s) hc
  obtain ⟨s', hle, hmr, hv, _⟩ := newRow_run hm t cs z.cells (by simpa using h1.symm) fun i x v hx hv => h3 i x v hx (by simpa using hv)
  exact ⟨s', _, hle, hmr, _, by simp only [Instr.alloc, Sem.run_bind, hz, Result.andThen_ok, run_newVar, Sem.run_pure], hv⟩

theorem box_run (hm : MR w0 s M w) {t : TypeId} {x : AV} {xv : Value} (hx : VR s x xv) (hs : x.solid = true) :
    ∃ s' u, s.le s' ∧ MR w0 s' (M.newRow x.cells).2 u ∧ ∃ v, (Instr.box t xv).run P w = .ok v u ∧ VR s' (M.newRow x.cells).1 v := by
  obtain ⟨hl, hc⟩ := hx.cells
  have hone := hx.cells_one (solid_tuple hs)
  obtain ⟨s', hle, hmr, hv, _⟩ := newRow_run hm t x.cells xv.cells hl.symm fun i y v hy hv => ⟨hc i y v hy hv, hone v (by
    rw [← Array.getElem?_toList] at hv; exact List.mem_of_getElem? hv)⟩
  exact ⟨s', _, hle, hmr, _, by simp only [Instr.box, Sem.run_bind, run_newVar, Result.andThen_ok, Sem.run_pure], hv⟩

theorem makeMap_run (hm : MR w0 s M w) (t : TypeId) :
    ∃ s' u, s.le s' ∧ MR w0 s' (M.push (.map [])) u ∧ ∃ v, (Instr.makeMap t none).run P w = .ok v u ∧ VR s' (.map M.objs.length) v :=
  ⟨_, _, le_setLoc_new hm _, hm.newMap, .map (some w.heap.size), by simp [Instr.makeMap], .map _ _ (setLoc_self _ _ _)⟩

theorem tipNew_run (hm : MR w0 s M w) (k : Nat) : ∃ s', s.le s' ∧ MR w0 s' (M.push (.tip 0)) w ∧ VR s' (.list (.own M.objs.length) k []) (.slice none 0 0) :=
  ⟨_, le_setLoc_new hm _, hm.newTip k, .nil _ k ⟨0, k, none, 0, setLoc_self _ _ _, Nat.le_refl _, fun _ => ⟨rfl, rfl, .inl rfl⟩⟩⟩

end
end Go.Am
