/- What the functions on integers compute, part MU. -/
import Derived.Test.YtfpoegnmeoghpaaGreatDoorDumpMB
import Derived.Test.YtfpoegnmeoghpaaGreatDoorDumpMA
import Derived.Test.YtfpoegnmeoghpaaGreatDoorVIRF
set_option linter.unusedVariables false
set_option linter.unusedSimpArgs false
namespace Go.VI.Dump
open Go.VI.Num
theorem Sl_val {h : Heap} {z : Nat} {v : AV} {es : List AV} (s : Sl h z v es) : v.val = true ∧ v.cells = [v] := by
 have := s.elems0
 cases v <;> simp [asList0] at this <;> exact ⟨rfl,rfl⟩
def pt (p : Pr) : AV := .agg [.int .i64 p.1,.int .i64 p.2]
def pts (l : List Pr) : List AV := l.map pt
@[simp] theorem pts_len (l : List Pr) : (pts l).length = l.length := by simp [pts]
theorem pts_get (l : List Pr) (k : Nat) (h : k < (pts l).length) : (pts l)[k] = pt (l[k]'(by simpa using h)) := by simp [pts]
def rov (f : Bool) (z : Nat) (es : List AV) : AV := if f then .lsf z es else .lst z es
@[go_sem] theorem rov_val (f : Bool) (z : Nat) (es : List AV) : (rov f z es).val = true := by unfold rov; split <;> rfl
@[go_sem] theorem rov_cells (f : Bool) (z : Nat) (es : List AV) : (rov f z es).cells = [rov f z es] := by unfold rov; split <;> rfl
@[go_sem] theorem rov_closed (f : Bool) (z : Nat) (es : List AV) : (rov f z es).closed = true := by unfold rov; split <;> rfl
@[go_sem] theorem frz_rov (b : Nat) (k : Bool) (f : Bool) (z : Nat) (es : List AV) (h : Heap) : frz b k (rov f z es) h = some (rov f z es,h) := by unfold rov; split <;> simp [frz]
theorem rov_sl {z z' : Nat} {es : List AV} (hz : z' = z ∨ es = []) (f : Bool) (h : Heap) : Sl h z (rov f z' es) es := by
 unfold rov
 split
 ·rcases hz with rfl | rfl
  ·exact Sl.lsf h _ _
  ·exact ⟨by simp [VI.zok],fun _ => rfl,rfl⟩
 ·exact sl_lst hz
def ixV {α : Type} (l : List α) (p : α → Bool) (k : Nat) : Option Nat := ((l.drop k).findIdx? p).map (· + k)
theorem ixV_end {α : Type} {l : List α} {p : α → Bool} : ixV l p l.length = none := by unfold ixV; rw [List.drop_length]; rfl
theorem ixV_hit {α : Type} {l : List α} {p : α → Bool} {k : Nat} (hk : k < l.length) (hp : p l[k] = true) : ixV l p k = some k := by
 unfold ixV
 rw [List.drop_eq_getElem_cons hk,List.findIdx?_cons,if_pos hp]; simp
theorem ixV_next {α : Type} {l : List α} {p : α → Bool} {k : Nat} (hk : k < l.length) (hp : p l[k] = false) : ixV l p k = ixV l p (k + 1) := by
 unfold ixV
 rw [List.drop_eq_getElem_cons hk,List.findIdx?_cons,hp,if_neg Bool.false_ne_true,Option.map_map]
 congr 1; funext x; simp; omega
theorem ixs_loop {h : Heap} {v : AV} {l : List Pr} (hv : Sl h 2 v (pts l)) (hl : l.length ≤ 9223372036854775807) {g : Nat} (hg : g < 1000) {caps : List AV} {p : Pr → Bool}
  (hF : ∀ x ∈ l,∀ lo,(run lib).fn g (pt x :: caps) h lo = some (.bool (p x),h)) (lo : Nat) : ∀ (d k : Nat),k + d = l.length →
  runC lib ⟨lo,h.length,0,none⟩ (.loop b92_0) ([(0,v),(1,.fn g caps),(7,.int .i64 l.length),(8,.int .i64 k)],h) =
   match ixV l p k with | some r => some (.ret,([(4,.int .i64 r)],h)) | none => some (.exit 0,([],h)) := by
 intro d
 induction d with
 | zero =>
  intro k hk
  obtain rfl : k = l.length := by omega
  rw [ixV_end,w_loop]
  simp (maxSteps := 1000000) (disch := omega) only [go_sem,Int.lt_irrefl]
 | succ d ih =>
  intro k hk
  have hk' : k < l.length := by omega
  have h1 : (k : Int) < l.length := by omega
  have e3 : sidx 2 v (.int .i64 k) = some k := by rw [sidx_sl hv (by omega) (by simp; omega)]; simp
  have e4 := fun off => pc_iptr (off := off) hv.elems0 (show k < (pts l).length by simp; omega)
  simp only [pts_get,pt] at e4
  have f := fun lo => hF l[k] (List.getElem_mem _) lo
  simp only [pt] at f
  cases hp : p l[k] with
  | true =>
   rw [ixV_hit hk' hp,w_loop]
   rw [hp] at f
   simp (maxSteps := 1000000) (disch := omega) only [go_sem,h1,e3,e4,f,hg,List.cons_append,List.nil_append]
  | false =>
   rw [ixV_next hk' hp,w_loop]
   rw [hp] at f
   have e := ih (k + 1) (by omega)
   rw [cast1] at e
   simp (maxSteps := 1000000) (disch := omega) only [go_sem,h1,e3,e4,f,hg,List.cons_append,List.nil_append,e]
def ixR {α : Type} (l : List α) (p : α → Bool) : Int := match ixV l p 0 with | some r => (r : Int) | none => -1
theorem ixs_run {h : Heap} {v : AV} {l : List Pr} (hv : Sl h 2 v (pts l)) (hl : l.length ≤ 9223372036854775807) {g : Nat} (hg : g < 1000) {caps : List AV} {p : Pr → Bool}
  (hF : ∀ x ∈ l,∀ lo,(run lib).fn g (pt x :: caps) h lo = some (.bool (p x),h)) (lo : Nat) : (run lib).fn 92 [v,.fn g caps] h lo = some (.int .i64 (ixR l p),h) := by
 have e := ixs_loop hv hl hg hF h.length l.length 0 (by omega)
 have ll := lenv_sl hv.len
 rw [pts_len] at ll
 unfold ixR
 simp only [Int.natCast_zero] at e
 rw [run_closed (x := x92) rfl rfl rfl rfl]
 cases hr : ixV l p 0 with
 | none =>
  rw [hr] at e
  simp (maxSteps := 1000000) (disch := omega) only [go_sem,x92,ll,e]
 | some r =>
  rw [hr] at e
  simp (maxSteps := 1000000) (disch := omega) only [go_sem,x92,ll,e]
theorem ixR_neg {α : Type} {l : List α} {p : α → Bool} : decide (0 ≤ ixR l p) = l.any p := by
 unfold ixR ixV
 cases h : l.findIdx? p with
 | none =>
  rw [List.drop_zero,h]
  rw [List.findIdx?_eq_none_iff] at h
  have : l.any p = false := by rw [List.any_eq_false]; intro x hx; rw [h x hx]; simp
  rw [this]; rfl
 | some r =>
  rw [List.drop_zero,h]
  have : l.any p = true := by
   cases ha : l.any p with
   | true => rfl
   | false =>
    rw [List.any_eq_false] at ha
    have : l.findIdx? p = none := List.findIdx?_eq_none_iff.mpr fun x hx => by simpa using ha x hx
    rw [this] at h; cases h
  rw [this]
  simp
theorem cfs_run {h : Heap} {v : AV} {l : List Pr} (hv : Sl h 2 v (pts l)) (hl : l.length ≤ 9223372036854775807) {g : Nat} (hg : g < 1000) {caps : List AV} {p : Pr → Bool}
  (hF : ∀ x ∈ l,∀ lo,(run lib).fn g (pt x :: caps) h lo = some (.bool (p x),h)) (lo : Nat) : (run lib).fn 52 [v,.fn g caps] h lo = some (.bool (l.any p),h) := by
 have e := fun lo => ixs_run hv hl hg hF lo
 have hn := ixR_neg (l := l) (p := p)
 rw [← hn]
 rw [run_closed (x := x52) rfl rfl rfl rfl]
 simp (maxSteps := 1000000) (disch := omega) only [go_sem,x52,e]
theorem dhas1_run (x : Pr) (s : Int) (h : Heap) (lo : Nat) : (run lib).fn 131 [pt x,.cptr [.int .i64 s]] h lo = some (.bool (decide (x.1 ≤ s) && decide (s < x.2)),h) := by
 unfold pt
 rw [run_closed (x := x131) rfl rfl rfl rfl]
 by_cases c : x.1 ≤ s <;> simp (maxSteps := 1000000) (disch := omega) only [go_sem,x131,c]
theorem dhas_run {h : Heap} {v : AV} {l : List Pr} (hv : Sl h 2 v (pts l)) (hl : l.length ≤ 9223372036854775807) (s : Int) (lo : Nat) : (run lib).fn 90 [v,.int .i64 s] h lo = some (.bool (hasB l s),h) := by
 have e := fun lo => cfs_run (g := 131) hv hl (by decide) (fun x _ lo => dhas1_run x s h lo) lo
 unfold hasB
 rw [run_closed (x := x90) rfl rfl rfl rfl]
 simp (maxSteps := 1000000) (disch := omega) only [go_sem,x90,e]
theorem ord_loop {h : Heap} {v : AV} {l : List Pr} (hv : Sl h 2 v (pts l)) (hl : l.length ≤ 9223372036854775807) (L m : Int) : ∀ (d k : Nat) (last : Int) (B : Nat × Blk),k + d = l.length →
  ∃ B',runC lib ⟨h.length,h.length,1,none⟩ (.loop b51_0) ([(0,v),(1,.int .i64 L),(2,.int .i64 m),(7,.int .i64 last),(10,v),(11,.int .i64 l.length),(12,.int .i64 k)],h ++ [B]) =
   if ordB L last (l.drop k) = true then some (.exit 0,([(0,v),(2,.int .i64 m)],h ++ [B'])) else some (.ret,([(6,.bool false)],h ++ [B'])) := by
 intro d
 induction d with
 | zero =>
  intro k last B hk
  obtain rfl : k = l.length := by omega
  refine ⟨B, ?_⟩
  rw [List.drop_length,w_loop]
  simp (maxSteps := 1000000) (disch := omega) only [go_sem,Int.lt_irrefl,ordB]
 | succ d ih =>
  intro k last B hk
  have hk' : k < l.length := by omega
  have h1 : (k : Int) < l.length := by omega
  have e3 : sidx 2 v (.int .i64 k) = some k := by rw [sidx_sl hv (by omega) (by simp; omega)]; simp
  have e4 := fun off fr => pc_iptr (off := off) (hv.elems fr) (show k < (pts l).length by simp; omega)
  simp only [pts_get,pt] at e4
  obtain ⟨v0,b0⟩ := B
  obtain ⟨B',e⟩ := ih (k + 1) l[k].2 (v0 + 1,.box [.int .i64 l[k].1,.int .i64 l[k].2]) (by omega)
  rw [cast1] at e
  rw [List.drop_eq_getElem_cons hk']
  simp only [ordB,Bool.and_eq_true,decide_eq_true_eq]
  by_cases c1 : l[k].1 ≤ last
  ·refine ⟨(v0 + 1,.box [.int .i64 l[k].1,.int .i64 l[k].2]), ?_⟩
   rw [if_neg (by omega),w_loop]
   simp (maxSteps := 1000000) (disch := omega) only [go_sem,h1,e3,e4,c1]
  ·by_cases c2 : l[k].2 ≤ l[k].1
   ·refine ⟨(v0 + 1,.box [.int .i64 l[k].1,.int .i64 l[k].2]), ?_⟩
    rw [if_neg (by omega),w_loop]
    simp (maxSteps := 1000000) (disch := omega) only [go_sem,h1,e3,e4,c1,c2]
   ·by_cases c3 : L < l[k].2
    ·refine ⟨(v0 + 1,.box [.int .i64 l[k].1,.int .i64 l[k].2]), ?_⟩
     rw [if_neg (by omega),w_loop]
     simp (maxSteps := 1000000) (disch := omega) only [go_sem,h1,e3,e4,c1,c2,c3]
    ·refine ⟨B', ?_⟩
     have hh : (last < l[k].1 ∧ l[k].1 < l[k].2 ∧ l[k].2 ≤ L ∧ ordB L l[k].2 (l.drop (k + 1)) = true) ↔ ordB L l[k].2 (l.drop (k + 1)) = true := ⟨fun h => h.2.2.2,fun h => ⟨by omega,by omega,by omega,h⟩⟩
     simp only [hh]
     rw [w_loop]
     simp (maxSteps := 1000000) (disch := omega) only [go_sem,h1,e3,e4,c1,c2,c3,e]
theorem dord_run {h : Heap} {v : AV} {l : List Pr} (hv : Sl h 2 v (pts l)) (hl : l.length ≤ 9223372036854775807) (L m : Int) (lo : Nat) : (run lib).fn 51 [v,.int .i64 L,.int .i64 m] h lo = some (.bool (ordB L (-1) l && decide ((l.length : Int) ≤ m)),h) := by
 obtain ⟨B',e⟩ := ord_loop hv hl L m l.length 0 (-1) (0,.dead) (by omega)
 have ll := lenv_sl hv.len
 rw [pts_len] at ll
 simp only [Int.natCast_zero,List.drop_zero] at e
 rw [run_closed (x := x51) rfl rfl rfl rfl]
 cases c : ordB L (-1) l
 ·rw [c,if_neg (by simp)] at e
  simp (maxSteps := 1000000) (disch := omega) only [go_sem,x51,ll,e]
 ·rw [c,if_pos rfl] at e
  simp (maxSteps := 1000000) (disch := omega) only [go_sem,x51,ll,e]
structure LV where
 l : Liv
 fp : Bool
 fc : Bool
 zp : Nat
 zc : Nat
structure okV (x : LV) : Prop where
 p : x.zp = 2 ∨ pts x.l.P = []
 c : x.zc = 2 ∨ pts x.l.C = []
 lp : x.l.P.length ≤ 9223372036854775807
 lc : x.l.C.length ≤ 9223372036854775807
def pV (x : LV) : AV := rov x.fp x.zp (pts x.l.P)
def cV (x : LV) : AV := rov x.fc x.zc (pts x.l.C)
@[go_sem] theorem frz_pV (b : Nat) (k : Bool) (x : LV) (h : Heap) : frz b k (pV x) h = some (pV x,h) := frz_rov _ _ _ _ _ _
@[go_sem] theorem frz_cV (b : Nat) (k : Bool) (x : LV) (h : Heap) : frz b k (cV x) h = some (cV x,h) := frz_rov _ _ _ _ _ _
theorem okV.sp {x : LV} (o : okV x) (h : Heap) : Sl h 2 (pV x) (pts x.l.P) := rov_sl o.p _ h
theorem okV.sc {x : LV} (o : okV x) (h : Heap) : Sl h 2 (cV x) (pts x.l.C) := rov_sl o.c _ h
def lvV (x : LV) : AV := .agg [.int .i64 x.l.L,.int .i64 x.l.D,.int .i64 x.l.E,pV x,cV x]
theorem dv11_run (c p : Pr) (h : Heap) (lo : Nat) : (run lib).fn 54 [pt c,.cptr [.int .i64 p.1,.int .i64 p.2]] h lo = some (.bool (decide (p.1 < c.2) && decide (c.1 < p.2)),h) := by
 unfold pt
 rw [run_closed (x := x54) rfl rfl rfl rfl]
 by_cases c : p.1 < c.2 <;> simp (maxSteps := 1000000) (disch := omega) only [go_sem,x54,c]
theorem dv1_run {x : LV} (o : okV x) (p : Pr) (h : Heap) (lo : Nat) : (run lib).fn 53 [pt p,.cptr [.int .i64 x.l.L,.int .i64 x.l.D,.int .i64 x.l.E,pV x,cV x]] h lo = some (.bool (x.l.C.any fun c => decide (p.1 < c.2) && decide (c.1 < p.2)),h) := by
 have e := fun H lo => cfs_run (g := 54) (o.sc H) o.lc (by decide) (fun c _ lo => dv11_run c p H lo) lo
 unfold pt
 rw [run_closed (x := x53) rfl rfl rfl rfl]
 simp (maxSteps := 1000000) (disch := omega) only [go_sem,x53,e]
def valB (l : Liv) : Bool := decide (1 ≤ l.L) && (decide (l.L ≤ 600) && (decide (0 ≤ l.D) && (decide (l.D ≤ 60) && (decide (1 ≤ l.E) && (decide (l.E ≤ 60) && ((ordB l.L (-1) l.P && decide ((l.P.length : Int) ≤ 4)) && ((ordB l.L (-1) l.C && decide ((l.C.length : Int) ≤ 4)) && !l.P.any fun p => l.C.any fun c => decide (p.1 < c.2) && decide (c.1 < p.2))))))))
theorem valB_ok {l : Liv} : valB l = true ↔ okLiv l := by
 unfold valB
 simp only [Bool.and_eq_true,decide_eq_true_eq,Bool.not_eq_true',List.any_eq_false,Bool.not_eq_true]
 constructor
 ·rintro ⟨h1,h2,h3,h4,h5,h6,⟨h7,h8⟩,⟨h9,h10⟩,h11⟩
  refine ⟨⟨h1,h2⟩,⟨h3,h4⟩,⟨h5,h6⟩,h7,h9,by omega,by omega,fun p hp => ?_⟩
  rw [meetB_false]
  intro c hc h
  have := h11 p hp c hc
  omega
 ·intro o
  refine ⟨o.L.1,o.L.2,o.D.1,o.D.2,o.E.1,o.E.2,⟨o.P,by have := o.p4; omega⟩,⟨o.C,by have := o.c4; omega⟩,fun p hp => ?_⟩
  intro c hc
  have := meetB_false.mp (o.dis p hp) c hc
  omega
theorem dvalid_run {x : LV} (o : okV x) (h : Heap) (lo : Nat) : (run lib).fn 22 [lvV x] h lo = some (.bool (valB x.l),h) := by
 have e1 := fun H lo L m => dord_run (o.sp H) o.lp L m lo
 have e2 := fun H lo L m => dord_run (o.sc H) o.lc L m lo
 have e3 := fun H lo => cfs_run (g := 53) (o.sp H) o.lp (by decide) (fun p _ lo => dv1_run o p H lo) lo
 unfold lvV
 rw [run_closed (x := x22) rfl rfl rfl rfl]
 unfold valB
 by_cases c1 : 1 ≤ x.l.L
 ·by_cases c2 : x.l.L ≤ 600
  ·by_cases c3 : 0 ≤ x.l.D
   ·by_cases c4 : x.l.D ≤ 60
    ·by_cases c5 : 1 ≤ x.l.E
     ·by_cases c6 : x.l.E ≤ 60
      ·have k1 : ¬ x.l.L < 1 := by omega
       have k2 : ¬ 600 < x.l.L := by omega
       have k3 : ¬ x.l.D < 0 := by omega
       have k4 : ¬ 60 < x.l.D := by omega
       have k5 : ¬ x.l.E < 1 := by omega
       have k6 : ¬ 60 < x.l.E := by omega
       simp only [c1,c2,c3,c4,c5,c6,decide_true,Bool.true_and]
       cases c7 : (ordB x.l.L (-1) x.l.P && decide ((x.l.P.length : Int) ≤ 4))
       ·simp (maxSteps := 1000000) (disch := omega) only [go_sem,x22,k1,k2,k3,k4,k5,k6,e1,e2,e3,c7]
       ·cases c8 : (ordB x.l.L (-1) x.l.C && decide ((x.l.C.length : Int) ≤ 4))
        ·simp (maxSteps := 1000000) (disch := omega) only [go_sem,x22,k1,k2,k3,k4,k5,k6,e1,e2,e3,c7,c8]
        ·simp (maxSteps := 1000000) (disch := omega) only [go_sem,x22,k1,k2,k3,k4,k5,k6,e1,e2,e3,c7,c8]
      ·have k1 : ¬ x.l.L < 1 := by omega
       have k2 : ¬ 600 < x.l.L := by omega
       have k3 : ¬ x.l.D < 0 := by omega
       have k4 : ¬ 60 < x.l.D := by omega
       have k5 : ¬ x.l.E < 1 := by omega
       have k6 : 60 < x.l.E := by omega
       simp (maxSteps := 1000000) (disch := omega) only [go_sem,x22,k1,k2,k3,k4,k5,k6,c6]
     ·have k1 : ¬ x.l.L < 1 := by omega
      have k2 : ¬ 600 < x.l.L := by omega
      have k3 : ¬ x.l.D < 0 := by omega
      have k4 : ¬ 60 < x.l.D := by omega
      have k5 : x.l.E < 1 := by omega
      simp (maxSteps := 1000000) (disch := omega) only [go_sem,x22,k1,k2,k3,k4,k5,c5]
    ·have k1 : ¬ x.l.L < 1 := by omega
     have k2 : ¬ 600 < x.l.L := by omega
     have k3 : ¬ x.l.D < 0 := by omega
     have k4 : 60 < x.l.D := by omega
     simp (maxSteps := 1000000) (disch := omega) only [go_sem,x22,k1,k2,k3,k4,c4]
   ·have k1 : ¬ x.l.L < 1 := by omega
    have k2 : ¬ 600 < x.l.L := by omega
    have k3 : x.l.D < 0 := by omega
    simp (maxSteps := 1000000) (disch := omega) only [go_sem,x22,k1,k2,k3,c3]
  ·have k1 : ¬ x.l.L < 1 := by omega
   have k2 : 600 < x.l.L := by omega
   simp (maxSteps := 1000000) (disch := omega) only [go_sem,x22,k1,k2,c2]
 ·have k1 : x.l.L < 1 := by omega
  simp (maxSteps := 1000000) (disch := omega) only [go_sem,x22,k1,c1]
end Go.VI.Dump
namespace Go.VI
variable {lo nb ns : Nat}
theorem pc_nb {g : Heap} (hg : g.length = nb) (fr : Heap) (s ver off : Nat) : pcells (g ++ fr) (.bptr (nb + s) ver off) = pcF ver off fr[s]? := by subst hg; exact pc_bptr_fr g fr s ver off
theorem ps_nb {g : Heap} (hg : g.length = nb) (hlo : lo ≤ nb) (fr : Heap) (sz s ver off : Nat) (v : AV) : pstore ⟨lo,nb,ns,none⟩ (g ++ fr) sz (.bptr (nb + s) ver off) v = if v.cells.length = sz ∧ v.val = true then psB s lo ns ver off g fr v fr[s]? else none := by subst hg; exact ps_bptr hlo
theorem mk_nb {g : Heap} (hg : g.length = nb) (fr : Heap) (s : Nat) (b : Blk) : mkAt ⟨lo,nb,ns,none⟩ s b (g ++ fr) = mkF s ns b g fr fr[s]? := by subst hg; exact mkAt_fr lo ns s b g fr
def klF (cx : Cx) (s : Nat) (ss : List Nat) (g fr : Heap) : Option (Nat × Blk) → Heap
 | some (v,_) => killAll cx ss (g ++ fr.set s (v,.dead))
 | none => killAll cx ss (g ++ fr)
theorem klF_some (cx : Cx) (s : Nat) (ss : List Nat) (g fr : Heap) (v : Nat) (b : Blk) : klF cx s ss g fr (some (v,b)) = killAll cx ss (g ++ fr.set s (v,.dead)) := rfl
theorem kl_nb {g : Heap} (hg : g.length = nb) (fr : Heap) (s : Nat) (ss : List Nat) : killAll ⟨lo,nb,ns,none⟩ (s :: ss) (g ++ fr) = klF ⟨lo,nb,ns,none⟩ s ss g fr fr[s]? := by
 subst hg
 rw [kill_cons]
 cases fr[s]? with
 | none => rfl
 | some p => rfl
theorem cd_nb {g : Heap} (hg : g.length = nb) (env : Env) (fr : Heap) (s : Nat) : Chk.ok ⟨lo,nb,ns,none⟩ env (g ++ fr) (.dead s) = ckD fr[s]? := by subst hg; exact ck_dead lo ns env g fr s
end Go.VI
namespace Go.VI.Dump
open Go.VI.Num
/- BIGSTEPS -/
def stC (x : Stp) : List AV := [.int .i64 x.fr,.int .i64 x.to,.int .i64 x.be,.int .i64 x.af,.int .i64 x.de,.bool x.cut,.bool x.str]
def stV (x : Stp) : AV := .agg [.int .i64 x.fr,.int .i64 x.to,.int .i64 x.be,.int .i64 x.af,.int .i64 x.de,.bool x.cut,.bool x.str]
theorem meets_run {h : Heap} {nb : Nat} (hn : h.length = nb) {fr : Heap} {s : Int} {x : LV} {j v : Nat} (hs : fr[j]? = some (v,.box [.int .i64 s])) (h1 : 0 ≤ s) (h2 : s ≤ 600) (h3 : 1 ≤ x.l.E) (h4 : x.l.E ≤ 60) (q : Pr) (lo : Nat) :
  (run lib).fn 91 [pt q,.bptr (nb + j) v 0,.cptr [.int .i64 x.l.L,.int .i64 x.l.D,.int .i64 x.l.E,pV x,cV x]] (h ++ fr) lo = some (.bool (decide (q.1 < s + x.l.E) && decide (s < q.2)),h ++ fr) := by
 subst hn
 have hp : ∀ fr2 : Heap,pcells (h ++ (fr ++ fr2)) (.bptr (h.length + j) v 0) = some [.int .i64 s] := fun fr2 => by
  rw [pc_bptr_fr,List.getElem?_append_left (List.getElem?_eq_some_iff.mp hs).1,hs]; simp [pcF]
 have hp0 := hp []
 rw [List.append_nil] at hp0
 unfold pt
 rw [run_closed (x := x91) rfl rfl rfl rfl]
 by_cases c : q.1 < s + x.l.E <;> simp (maxSteps := 30000000) (disch := omega) only [go_sem,x91,hp0,c,List.append_assoc,hp]
section
variable {x : LV} {s d : Int} {h h' : Heap} {nb lo id iv : Nat} {v v1 : Nat} {b1 : Blk}
@[reducible] def cEnv (x : LV) (id iv nb j v : Nat) (d a : Int) : Env := [(0,.yld id iv),(1,.cptr [.int .i64 x.l.L,.int .i64 x.l.D,.int .i64 x.l.E,pV x,cV x]),(3,.int .i64 d),(4,.int .i64 a),(5,.bptr (nb + j) v 0)]
theorem rd_cutd_0 (o : okV x) (ok : okLiv x.l) (hn : h.length = nb) (hn' : h'.length = nb) (hlo : lo ≤ nb) (g1 : s < x.l.L) (g2 : hasB x.l.C s = true) (g3 : 0 < d) (hs : 0 ≤ s) (hd : 0 ≤ d ∧ d ≤ x.l.D) (B2 : Nat × Blk)
  (hy : yieldv (run lib) ⟨lo,nb,3,none⟩ id iv [.agg [.int .i64 (s),.int .i64 (s + 1),.int .i64 (s + d),.int .i64 (s + d),.int .i64 (d),.bool true,.bool false]] (h ++ [(v,.box [.int .i64 s]),(v1 + 1,.box [.int .i64 (s),.int .i64 (s + 1),.int .i64 (s + d),.int .i64 (s + d),.int .i64 (d),.bool true,.bool false]),B2]) = some (.bool true,h' ++ [(v,.box [.int .i64 s]),(v1 + 1,.box [.int .i64 (s),.int .i64 (s + 1),.int .i64 (s + d),.int .i64 (s + d),.int .i64 (d),.bool true,.bool false]),B2])) :
  runC lib ⟨lo,nb,3,none⟩ (.loop b89_0) (cEnv x id iv nb 0 v d (s + d),h ++ [(v,.box [.int .i64 s]),(v1,b1),B2]) =
   runC lib ⟨lo,nb,3,none⟩ (.loop b89_0) (cEnv x id iv nb 0 (v + 1) (d - 1) (s + d),h' ++ [(v + 1,.box [.int .i64 (s + 1)]),(v1 + 1,.box [.int .i64 (s),.int .i64 (s + 1),.int .i64 (s + d),.int .i64 (s + d),.int .i64 (d),.bool true,.bool false]),B2]) := by
 obtain ⟨L1,L2⟩ := ok.L
 obtain ⟨D1,D2⟩ := ok.D
 obtain ⟨E1,E2⟩ := ok.E
 have hc := fun H lo => dhas_run (o.sc H) o.lc s lo
 rw [g2] at hc
 conv => lhs; rw [w_loop]
 simp (maxSteps := 30000000) (disch := omega) only [go_sem,cl_cptr,hc,g1,hn,hn',hy,pc_nb,ps_nb,mk_nb,kl_nb,klF_some,kill_nil,cd_nb,Nat.add_right_inj,Nat.reduceEqDiff,g3]
theorem rd_cutd_2 (o : okV x) (ok : okLiv x.l) (hn : h.length = nb) (hn' : h'.length = nb) (hlo : lo ≤ nb) (g1 : s < x.l.L) (g2 : hasB x.l.C s = true) (g3 : 0 < d) (hs : 0 ≤ s) (hd : 0 ≤ d ∧ d ≤ x.l.D) (v0 : Nat) (c0 : Blk)
  (hy : yieldv (run lib) ⟨lo,nb,3,none⟩ id iv [.agg [.int .i64 (s),.int .i64 (s + 1),.int .i64 (s + d),.int .i64 (s + d),.int .i64 (d),.bool true,.bool false]] (h ++ [(v0,c0),(v1 + 1,.box [.int .i64 (s),.int .i64 (s + 1),.int .i64 (s + d),.int .i64 (s + d),.int .i64 (d),.bool true,.bool false]),(v,.box [.int .i64 s])]) = some (.bool true,h' ++ [(v0,c0),(v1 + 1,.box [.int .i64 (s),.int .i64 (s + 1),.int .i64 (s + d),.int .i64 (s + d),.int .i64 (d),.bool true,.bool false]),(v,.box [.int .i64 s])])) :
  runC lib ⟨lo,nb,3,none⟩ (.loop b89_0) (cEnv x id iv nb 2 v d (s + d),h ++ [(v0,c0),(v1,b1),(v,.box [.int .i64 s])]) =
   runC lib ⟨lo,nb,3,none⟩ (.loop b89_0) (cEnv x id iv nb 0 (v0 + 1) (d - 1) (s + d),h' ++ [(v0 + 1,.box [.int .i64 (s + 1)]),(v1 + 1,.box [.int .i64 (s),.int .i64 (s + 1),.int .i64 (s + d),.int .i64 (s + d),.int .i64 (d),.bool true,.bool false]),(v,.box [.int .i64 (s + 1)])]) := by
 obtain ⟨L1,L2⟩ := ok.L
 obtain ⟨D1,D2⟩ := ok.D
 obtain ⟨E1,E2⟩ := ok.E
 have hc := fun H lo => dhas_run (o.sc H) o.lc s lo
 rw [g2] at hc
 conv => lhs; rw [w_loop]
 simp (maxSteps := 30000000) (disch := omega) only [go_sem,cl_cptr,hc,g1,hn,hn',hy,pc_nb,ps_nb,mk_nb,kl_nb,klF_some,kill_nil,cd_nb,Nat.add_right_inj,Nat.reduceEqDiff,g3]
theorem rd_cut0_0 (o : okV x) (ok : okLiv x.l) (hn : h.length = nb) (hn' : h'.length = nb) (hlo : lo ≤ nb) (g1 : s < x.l.L) (g2 : hasB x.l.C s = true) (g3 : d = 0) (hs : 0 ≤ s) (hd : 0 ≤ d ∧ d ≤ x.l.D) (B2 : Nat × Blk)
  (hy : yieldv (run lib) ⟨lo,nb,3,none⟩ id iv [.agg [.int .i64 (s),.int .i64 (s + 1),.int .i64 (s + d),.int .i64 (s + d + 1),.int .i64 (d),.bool true,.bool false]] (h ++ [(v,.box [.int .i64 s]),(v1 + 1,.box [.int .i64 (s),.int .i64 (s + 1),.int .i64 (s + d),.int .i64 (s + d + 1),.int .i64 (d),.bool true,.bool false]),B2]) = some (.bool true,h' ++ [(v,.box [.int .i64 s]),(v1 + 1,.box [.int .i64 (s),.int .i64 (s + 1),.int .i64 (s + d),.int .i64 (s + d + 1),.int .i64 (d),.bool true,.bool false]),B2])) :
  runC lib ⟨lo,nb,3,none⟩ (.loop b89_0) (cEnv x id iv nb 0 v d (s + d),h ++ [(v,.box [.int .i64 s]),(v1,b1),B2]) =
   runC lib ⟨lo,nb,3,none⟩ (.loop b89_0) (cEnv x id iv nb 0 (v + 1) (d) (s + d + 1),h' ++ [(v + 1,.box [.int .i64 (s + 1)]),(v1 + 1,.box [.int .i64 (s),.int .i64 (s + 1),.int .i64 (s + d),.int .i64 (s + d + 1),.int .i64 (d),.bool true,.bool false]),B2]) := by
 obtain ⟨L1,L2⟩ := ok.L
 obtain ⟨D1,D2⟩ := ok.D
 obtain ⟨E1,E2⟩ := ok.E
 have hc := fun H lo => dhas_run (o.sc H) o.lc s lo
 rw [g2] at hc
 subst g3
 conv => lhs; rw [w_loop]
 simp (maxSteps := 30000000) (disch := omega) only [go_sem,cl_cptr,hc,g1,hn,hn',hy,pc_nb,ps_nb,mk_nb,kl_nb,klF_some,kill_nil,cd_nb,Nat.add_right_inj,Nat.reduceEqDiff,Int.lt_irrefl]
theorem rd_cut0_2 (o : okV x) (ok : okLiv x.l) (hn : h.length = nb) (hn' : h'.length = nb) (hlo : lo ≤ nb) (g1 : s < x.l.L) (g2 : hasB x.l.C s = true) (g3 : d = 0) (hs : 0 ≤ s) (hd : 0 ≤ d ∧ d ≤ x.l.D) (v0 : Nat) (c0 : Blk)
  (hy : yieldv (run lib) ⟨lo,nb,3,none⟩ id iv [.agg [.int .i64 (s),.int .i64 (s + 1),.int .i64 (s + d),.int .i64 (s + d + 1),.int .i64 (d),.bool true,.bool false]] (h ++ [(v0,c0),(v1 + 1,.box [.int .i64 (s),.int .i64 (s + 1),.int .i64 (s + d),.int .i64 (s + d + 1),.int .i64 (d),.bool true,.bool false]),(v,.box [.int .i64 s])]) = some (.bool true,h' ++ [(v0,c0),(v1 + 1,.box [.int .i64 (s),.int .i64 (s + 1),.int .i64 (s + d),.int .i64 (s + d + 1),.int .i64 (d),.bool true,.bool false]),(v,.box [.int .i64 s])])) :
  runC lib ⟨lo,nb,3,none⟩ (.loop b89_0) (cEnv x id iv nb 2 v d (s + d),h ++ [(v0,c0),(v1,b1),(v,.box [.int .i64 s])]) =
   runC lib ⟨lo,nb,3,none⟩ (.loop b89_0) (cEnv x id iv nb 0 (v0 + 1) (d) (s + d + 1),h' ++ [(v0 + 1,.box [.int .i64 (s + 1)]),(v1 + 1,.box [.int .i64 (s),.int .i64 (s + 1),.int .i64 (s + d),.int .i64 (s + d + 1),.int .i64 (d),.bool true,.bool false]),(v,.box [.int .i64 (s + 1)])]) := by
 obtain ⟨L1,L2⟩ := ok.L
 obtain ⟨D1,D2⟩ := ok.D
 obtain ⟨E1,E2⟩ := ok.E
 have hc := fun H lo => dhas_run (o.sc H) o.lc s lo
 rw [g2] at hc
 subst g3
 conv => lhs; rw [w_loop]
 simp (maxSteps := 30000000) (disch := omega) only [go_sem,cl_cptr,hc,g1,hn,hn',hy,pc_nb,ps_nb,mk_nb,kl_nb,klF_some,kill_nil,cd_nb,Nat.add_right_inj,Nat.reduceEqDiff,Int.lt_irrefl]
theorem rd_str_0 (o : okV x) (ok : okLiv x.l) (hn : h.length = nb) (hn' : h'.length = nb) (hlo : lo ≤ nb) (g1 : s < x.l.L) (g2 : hasB x.l.C s = false) (g3 : d < x.l.D) (g4 : s + x.l.E ≤ x.l.L) (g5 : meetB x.l.C s (s + x.l.E) = false) (g6 : meetB x.l.P s (s + x.l.E) = false) (hs : 0 ≤ s) (hd : 0 ≤ d ∧ d ≤ x.l.D) (B2 : Nat × Blk)
  (hy : yieldv (run lib) ⟨lo,nb,3,none⟩ id iv [.agg [.int .i64 (s),.int .i64 (s + x.l.E),.int .i64 (s + d),.int .i64 (s + d + x.l.E + 1),.int .i64 (d),.bool false,.bool true]] (h ++ [(v,.box [.int .i64 s]),(v1 + 1,.box [.int .i64 (s),.int .i64 (s + x.l.E),.int .i64 (s + d),.int .i64 (s + d + x.l.E + 1),.int .i64 (d),.bool false,.bool true]),B2]) = some (.bool true,h' ++ [(v,.box [.int .i64 s]),(v1 + 1,.box [.int .i64 (s),.int .i64 (s + x.l.E),.int .i64 (s + d),.int .i64 (s + d + x.l.E + 1),.int .i64 (d),.bool false,.bool true]),B2])) :
  runC lib ⟨lo,nb,3,none⟩ (.loop b89_0) (cEnv x id iv nb 0 v d (s + d),h ++ [(v,.box [.int .i64 s]),(v1,b1),B2]) =
   runC lib ⟨lo,nb,3,none⟩ (.loop b89_0) (cEnv x id iv nb 0 (v + 1) (d + 1) (s + d + x.l.E + 1),h' ++ [(v + 1,.box [.int .i64 (s + x.l.E)]),(v1 + 1,.box [.int .i64 (s),.int .i64 (s + x.l.E),.int .i64 (s + d),.int .i64 (s + d + x.l.E + 1),.int .i64 (d),.bool false,.bool true]),B2]) := by
 obtain ⟨L1,L2⟩ := ok.L
 obtain ⟨D1,D2⟩ := ok.D
 obtain ⟨E1,E2⟩ := ok.E
 have hc := fun H lo => dhas_run (o.sc H) o.lc s lo
 rw [g2] at hc
 have m1 := fun fr hf lo => cfs_run (g := 91) (o.sc (h ++ fr)) o.lc (by decide) (fun q _ lo => meets_run (x := x) (v := v) (j := 0) hn (fr := fr) hf hs (by omega) E1 E2 q lo) lo
 have m2 := fun fr hf lo => cfs_run (g := 91) (o.sp (h ++ fr)) o.lp (by decide) (fun q _ lo => meets_run (x := x) (v := v) (j := 0) hn (fr := fr) hf hs (by omega) E1 E2 q lo) lo
 have e1 : (x.l.C.any fun q => decide (q.1 < s + x.l.E) && decide (s < q.2)) = meetB x.l.C s (s + x.l.E) := rfl
 have e2 : (x.l.P.any fun q => decide (q.1 < s + x.l.E) && decide (s < q.2)) = meetB x.l.P s (s + x.l.E) := rfl
 rw [e1] at m1
 rw [e2] at m2
 have m1 := m1 [(v,.box [.int .i64 s]),(v1 + 1,.box [.int .i64 s,.int .i64 (s + 1),.int .i64 (s + d),.int .i64 (s + d + 1),.int .i64 d,.bool false,.bool false]),B2] rfl
 have m2 := m2 [(v,.box [.int .i64 s]),(v1 + 1,.box [.int .i64 s,.int .i64 (s + 1),.int .i64 (s + d),.int .i64 (s + d + 1),.int .i64 d,.bool false,.bool false]),B2] rfl
 rw [g5] at m1
 rw [g6] at m2
 conv => lhs; rw [w_loop]
 simp (maxSteps := 30000000) (disch := omega) only [go_sem,cl_cptr,hc,g1,hn,hn',hy,pc_nb,ps_nb,mk_nb,kl_nb,klF_some,kill_nil,cd_nb,Nat.add_right_inj,Nat.reduceEqDiff,g3,g4,m1,m2]
theorem rd_str_2 (o : okV x) (ok : okLiv x.l) (hn : h.length = nb) (hn' : h'.length = nb) (hlo : lo ≤ nb) (g1 : s < x.l.L) (g2 : hasB x.l.C s = false) (g3 : d < x.l.D) (g4 : s + x.l.E ≤ x.l.L) (g5 : meetB x.l.C s (s + x.l.E) = false) (g6 : meetB x.l.P s (s + x.l.E) = false) (hs : 0 ≤ s) (hd : 0 ≤ d ∧ d ≤ x.l.D) (v0 : Nat) (c0 : Blk)
  (hy : yieldv (run lib) ⟨lo,nb,3,none⟩ id iv [.agg [.int .i64 (s),.int .i64 (s + x.l.E),.int .i64 (s + d),.int .i64 (s + d + x.l.E + 1),.int .i64 (d),.bool false,.bool true]] (h ++ [(v0,c0),(v1 + 1,.box [.int .i64 (s),.int .i64 (s + x.l.E),.int .i64 (s + d),.int .i64 (s + d + x.l.E + 1),.int .i64 (d),.bool false,.bool true]),(v,.box [.int .i64 s])]) = some (.bool true,h' ++ [(v0,c0),(v1 + 1,.box [.int .i64 (s),.int .i64 (s + x.l.E),.int .i64 (s + d),.int .i64 (s + d + x.l.E + 1),.int .i64 (d),.bool false,.bool true]),(v,.box [.int .i64 s])])) :
  runC lib ⟨lo,nb,3,none⟩ (.loop b89_0) (cEnv x id iv nb 2 v d (s + d),h ++ [(v0,c0),(v1,b1),(v,.box [.int .i64 s])]) =
   runC lib ⟨lo,nb,3,none⟩ (.loop b89_0) (cEnv x id iv nb 0 (v0 + 1) (d + 1) (s + d + x.l.E + 1),h' ++ [(v0 + 1,.box [.int .i64 (s + x.l.E)]),(v1 + 1,.box [.int .i64 (s),.int .i64 (s + x.l.E),.int .i64 (s + d),.int .i64 (s + d + x.l.E + 1),.int .i64 (d),.bool false,.bool true]),(v,.box [.int .i64 (s + x.l.E)])]) := by
 obtain ⟨L1,L2⟩ := ok.L
 obtain ⟨D1,D2⟩ := ok.D
 obtain ⟨E1,E2⟩ := ok.E
 have hc := fun H lo => dhas_run (o.sc H) o.lc s lo
 rw [g2] at hc
 have m1 := fun fr hf lo => cfs_run (g := 91) (o.sc (h ++ fr)) o.lc (by decide) (fun q _ lo => meets_run (x := x) (v := v) (j := 2) hn (fr := fr) hf hs (by omega) E1 E2 q lo) lo
 have m2 := fun fr hf lo => cfs_run (g := 91) (o.sp (h ++ fr)) o.lp (by decide) (fun q _ lo => meets_run (x := x) (v := v) (j := 2) hn (fr := fr) hf hs (by omega) E1 E2 q lo) lo
 have e1 : (x.l.C.any fun q => decide (q.1 < s + x.l.E) && decide (s < q.2)) = meetB x.l.C s (s + x.l.E) := rfl
 have e2 : (x.l.P.any fun q => decide (q.1 < s + x.l.E) && decide (s < q.2)) = meetB x.l.P s (s + x.l.E) := rfl
 rw [e1] at m1
 rw [e2] at m2
 have m1 := m1 [(v0,c0),(v1 + 1,.box [.int .i64 s,.int .i64 (s + 1),.int .i64 (s + d),.int .i64 (s + d + 1),.int .i64 d,.bool false,.bool false]),(v,.box [.int .i64 s])] rfl
 have m2 := m2 [(v0,c0),(v1 + 1,.box [.int .i64 s,.int .i64 (s + 1),.int .i64 (s + d),.int .i64 (s + d + 1),.int .i64 d,.bool false,.bool false]),(v,.box [.int .i64 s])] rfl
 rw [g5] at m1
 rw [g6] at m2
 conv => lhs; rw [w_loop]
 simp (maxSteps := 30000000) (disch := omega) only [go_sem,cl_cptr,hc,g1,hn,hn',hy,pc_nb,ps_nb,mk_nb,kl_nb,klF_some,kill_nil,cd_nb,Nat.add_right_inj,Nat.reduceEqDiff,g3,g4,m1,m2]
theorem rd_pl_0 (o : okV x) (ok : okLiv x.l) (hn : h.length = nb) (hn' : h'.length = nb) (hlo : lo ≤ nb) (g1 : s < x.l.L) (g2 : hasB x.l.C s = false) (g3 : strB x.l s d = false) (hs : 0 ≤ s) (hd : 0 ≤ d ∧ d ≤ x.l.D) (B2 : Nat × Blk)
  (hy : yieldv (run lib) ⟨lo,nb,3,none⟩ id iv [.agg [.int .i64 (s),.int .i64 (s + 1),.int .i64 (s + d),.int .i64 (s + d + 1),.int .i64 (d),.bool false,.bool false]] (h ++ [(v,.box [.int .i64 s]),(v1 + 1,.box [.int .i64 (s),.int .i64 (s + 1),.int .i64 (s + d),.int .i64 (s + d + 1),.int .i64 (d),.bool false,.bool false]),B2]) = some (.bool true,h' ++ [(v,.box [.int .i64 s]),(v1 + 1,.box [.int .i64 (s),.int .i64 (s + 1),.int .i64 (s + d),.int .i64 (s + d + 1),.int .i64 (d),.bool false,.bool false]),B2])) :
  runC lib ⟨lo,nb,3,none⟩ (.loop b89_0) (cEnv x id iv nb 0 v d (s + d),h ++ [(v,.box [.int .i64 s]),(v1,b1),B2]) =
   runC lib ⟨lo,nb,3,none⟩ (.loop b89_0) (cEnv x id iv nb 0 (v + 1) (d) (s + d + 1),h' ++ [(v + 1,.box [.int .i64 (s + 1)]),(v1 + 1,.box [.int .i64 (s),.int .i64 (s + 1),.int .i64 (s + d),.int .i64 (s + d + 1),.int .i64 (d),.bool false,.bool false]),B2]) := by
 obtain ⟨L1,L2⟩ := ok.L
 obtain ⟨D1,D2⟩ := ok.D
 obtain ⟨E1,E2⟩ := ok.E
 have hc := fun H lo => dhas_run (o.sc H) o.lc s lo
 rw [g2] at hc
 have m1 := fun fr hf lo => cfs_run (g := 91) (o.sc (h ++ fr)) o.lc (by decide) (fun q _ lo => meets_run (x := x) (v := v) (j := 0) hn (fr := fr) hf hs (by omega) E1 E2 q lo) lo
 have m2 := fun fr hf lo => cfs_run (g := 91) (o.sp (h ++ fr)) o.lp (by decide) (fun q _ lo => meets_run (x := x) (v := v) (j := 0) hn (fr := fr) hf hs (by omega) E1 E2 q lo) lo
 have e1 : (x.l.C.any fun q => decide (q.1 < s + x.l.E) && decide (s < q.2)) = meetB x.l.C s (s + x.l.E) := rfl
 have e2 : (x.l.P.any fun q => decide (q.1 < s + x.l.E) && decide (s < q.2)) = meetB x.l.P s (s + x.l.E) := rfl
 rw [e1] at m1
 rw [e2] at m2
 have m1 := m1 [(v,.box [.int .i64 s]),(v1 + 1,.box [.int .i64 s,.int .i64 (s + 1),.int .i64 (s + d),.int .i64 (s + d + 1),.int .i64 d,.bool false,.bool false]),B2] rfl
 have m2 := m2 [(v,.box [.int .i64 s]),(v1 + 1,.box [.int .i64 s,.int .i64 (s + 1),.int .i64 (s + d),.int .i64 (s + d + 1),.int .i64 d,.bool false,.bool false]),B2] rfl
 simp only [strB,Bool.and_eq_false_iff,decide_eq_false_iff_not,Bool.not_eq_false'] at g3
 by_cases c1 : d < x.l.D
 ·by_cases c2 : s + x.l.E ≤ x.l.L
  ·cases c3 : meetB x.l.C s (s + x.l.E)
   ·have c4 : meetB x.l.P s (s + x.l.E) = true := by
     rcases g3 with g3 | g3 | g3 | g3
     ·exact absurd c1 g3
     ·exact absurd c2 g3
     ·rw [c3] at g3; cases g3
     ·exact g3
    rw [c3] at m1
    rw [c4] at m2
    conv => lhs; rw [w_loop]
    simp (maxSteps := 30000000) (disch := omega) only [go_sem,cl_cptr,hc,g1,hn,hn',hy,pc_nb,ps_nb,mk_nb,kl_nb,klF_some,kill_nil,cd_nb,Nat.add_right_inj,Nat.reduceEqDiff,c1,c2,m1,m2]
   ·rw [c3] at m1
    conv => lhs; rw [w_loop]
    simp (maxSteps := 30000000) (disch := omega) only [go_sem,cl_cptr,hc,g1,hn,hn',hy,pc_nb,ps_nb,mk_nb,kl_nb,klF_some,kill_nil,cd_nb,Nat.add_right_inj,Nat.reduceEqDiff,c1,c2,m1]
  ·conv => lhs; rw [w_loop]
   simp (maxSteps := 30000000) (disch := omega) only [go_sem,cl_cptr,hc,g1,hn,hn',hy,pc_nb,ps_nb,mk_nb,kl_nb,klF_some,kill_nil,cd_nb,Nat.add_right_inj,Nat.reduceEqDiff,c1,c2]
 ·conv => lhs; rw [w_loop]
  simp (maxSteps := 30000000) (disch := omega) only [go_sem,cl_cptr,hc,g1,hn,hn',hy,pc_nb,ps_nb,mk_nb,kl_nb,klF_some,kill_nil,cd_nb,Nat.add_right_inj,Nat.reduceEqDiff,c1]
theorem rd_pl_2 (o : okV x) (ok : okLiv x.l) (hn : h.length = nb) (hn' : h'.length = nb) (hlo : lo ≤ nb) (g1 : s < x.l.L) (g2 : hasB x.l.C s = false) (g3 : strB x.l s d = false) (hs : 0 ≤ s) (hd : 0 ≤ d ∧ d ≤ x.l.D) (v0 : Nat) (c0 : Blk)
  (hy : yieldv (run lib) ⟨lo,nb,3,none⟩ id iv [.agg [.int .i64 (s),.int .i64 (s + 1),.int .i64 (s + d),.int .i64 (s + d + 1),.int .i64 (d),.bool false,.bool false]] (h ++ [(v0,c0),(v1 + 1,.box [.int .i64 (s),.int .i64 (s + 1),.int .i64 (s + d),.int .i64 (s + d + 1),.int .i64 (d),.bool false,.bool false]),(v,.box [.int .i64 s])]) = some (.bool true,h' ++ [(v0,c0),(v1 + 1,.box [.int .i64 (s),.int .i64 (s + 1),.int .i64 (s + d),.int .i64 (s + d + 1),.int .i64 (d),.bool false,.bool false]),(v,.box [.int .i64 s])])) :
  runC lib ⟨lo,nb,3,none⟩ (.loop b89_0) (cEnv x id iv nb 2 v d (s + d),h ++ [(v0,c0),(v1,b1),(v,.box [.int .i64 s])]) =
   runC lib ⟨lo,nb,3,none⟩ (.loop b89_0) (cEnv x id iv nb 0 (v0 + 1) (d) (s + d + 1),h' ++ [(v0 + 1,.box [.int .i64 (s + 1)]),(v1 + 1,.box [.int .i64 (s),.int .i64 (s + 1),.int .i64 (s + d),.int .i64 (s + d + 1),.int .i64 (d),.bool false,.bool false]),(v,.box [.int .i64 (s + 1)])]) := by
 obtain ⟨L1,L2⟩ := ok.L
 obtain ⟨D1,D2⟩ := ok.D
 obtain ⟨E1,E2⟩ := ok.E
 have hc := fun H lo => dhas_run (o.sc H) o.lc s lo
 rw [g2] at hc
 have m1 := fun fr hf lo => cfs_run (g := 91) (o.sc (h ++ fr)) o.lc (by decide) (fun q _ lo => meets_run (x := x) (v := v) (j := 2) hn (fr := fr) hf hs (by omega) E1 E2 q lo) lo
 have m2 := fun fr hf lo => cfs_run (g := 91) (o.sp (h ++ fr)) o.lp (by decide) (fun q _ lo => meets_run (x := x) (v := v) (j := 2) hn (fr := fr) hf hs (by omega) E1 E2 q lo) lo
 have e1 : (x.l.C.any fun q => decide (q.1 < s + x.l.E) && decide (s < q.2)) = meetB x.l.C s (s + x.l.E) := rfl
 have e2 : (x.l.P.any fun q => decide (q.1 < s + x.l.E) && decide (s < q.2)) = meetB x.l.P s (s + x.l.E) := rfl
 rw [e1] at m1
 rw [e2] at m2
 have m1 := m1 [(v0,c0),(v1 + 1,.box [.int .i64 s,.int .i64 (s + 1),.int .i64 (s + d),.int .i64 (s + d + 1),.int .i64 d,.bool false,.bool false]),(v,.box [.int .i64 s])] rfl
 have m2 := m2 [(v0,c0),(v1 + 1,.box [.int .i64 s,.int .i64 (s + 1),.int .i64 (s + d),.int .i64 (s + d + 1),.int .i64 d,.bool false,.bool false]),(v,.box [.int .i64 s])] rfl
 simp only [strB,Bool.and_eq_false_iff,decide_eq_false_iff_not,Bool.not_eq_false'] at g3
 by_cases c1 : d < x.l.D
 ·by_cases c2 : s + x.l.E ≤ x.l.L
  ·cases c3 : meetB x.l.C s (s + x.l.E)
   ·have c4 : meetB x.l.P s (s + x.l.E) = true := by
     rcases g3 with g3 | g3 | g3 | g3
     ·exact absurd c1 g3
     ·exact absurd c2 g3
     ·rw [c3] at g3; cases g3
     ·exact g3
    rw [c3] at m1
    rw [c4] at m2
    conv => lhs; rw [w_loop]
    simp (maxSteps := 30000000) (disch := omega) only [go_sem,cl_cptr,hc,g1,hn,hn',hy,pc_nb,ps_nb,mk_nb,kl_nb,klF_some,kill_nil,cd_nb,Nat.add_right_inj,Nat.reduceEqDiff,c1,c2,m1,m2]
   ·rw [c3] at m1
    conv => lhs; rw [w_loop]
    simp (maxSteps := 30000000) (disch := omega) only [go_sem,cl_cptr,hc,g1,hn,hn',hy,pc_nb,ps_nb,mk_nb,kl_nb,klF_some,kill_nil,cd_nb,Nat.add_right_inj,Nat.reduceEqDiff,c1,c2,m1]
  ·conv => lhs; rw [w_loop]
   simp (maxSteps := 30000000) (disch := omega) only [go_sem,cl_cptr,hc,g1,hn,hn',hy,pc_nb,ps_nb,mk_nb,kl_nb,klF_some,kill_nil,cd_nb,Nat.add_right_inj,Nat.reduceEqDiff,c1,c2]
 ·conv => lhs; rw [w_loop]
  simp (maxSteps := 30000000) (disch := omega) only [go_sem,cl_cptr,hc,g1,hn,hn',hy,pc_nb,ps_nb,mk_nb,kl_nb,klF_some,kill_nil,cd_nb,Nat.add_right_inj,Nat.reduceEqDiff,c1]
end
structure StpOk (x : Stp) : Prop where
 fr : 0 ≤ x.fr
 to : x.fr < x.to
 hi : x.to ≤ 600
 tf : x.to - x.fr ≤ 60
 be : x.be = x.fr + x.de
 af : x.be ≤ x.af
 af2 : x.af ≤ x.be + 61
 af3 : x.af ≤ 660
 de : 0 ≤ x.de
 de2 : x.de ≤ 60
section
variable {σ : Type} {H : σ → Heap} {nb lo id iv : Nat} {step : σ → Stp → σ} {Iv : Int → Int → σ → Prop}
theorem course_loopQ {Q : Stp → Prop} {x : LV} (o : okV x) (ok : okLiv x.l) (hlen : ∀ st,(H st).length = nb) (hlo : lo ≤ nb)
  (hI : ∀ st X,StpOk X → Q X → Iv X.fr X.be st → Iv X.to X.af (step st X))
  (hy : ∀ st X fr,StpOk X → Q X → Iv X.fr X.be st → yieldv (run lib) ⟨lo,nb,3,none⟩ id iv [stV X] (H st ++ fr) = some (.bool true,H (step st X) ++ fr))
  {s d e : Int} {xs : List Stp} (h : Ch x.l s d xs e) : (∀ X ∈ xs,Q X) → 0 ≤ s → 0 ≤ d → d ≤ x.l.D → ∀ st,Iv s (s + d) st → ∀ (j v : Nat) (fr : Heap),((j = 0 ∧ ∃ v1 b1 B2,fr = [(v,.box [.int .i64 s]),(v1,b1),B2]) ∨ (j = 2 ∧ ∃ v0 c0 v1 b1,fr = [(v0,c0),(v1,b1),(v,.box [.int .i64 s])])) →
  Iv x.l.L (x.l.L + e) (xs.foldl step st) ∧ ∃ fr',runC lib ⟨lo,nb,3,none⟩ (.loop b89_0) (cEnv x id iv nb j v d (s + d),H st ++ fr) = some (.exit 0,([],H (xs.foldl step st) ++ fr')) := by
 obtain ⟨L1,L2⟩ := ok.L
 obtain ⟨D1,D2⟩ := ok.D
 obtain ⟨E1,E2⟩ := ok.E
 induction h with
 | nil d =>
  intro hQ hs hd1 hd2 st hi j v fr hj
  have hn := hlen st
  refine ⟨hi,fr, ?_⟩
  rcases hj with ⟨rfl,v1,b1,B2,rfl⟩ | ⟨rfl,v0,c0,v1,b1,rfl⟩
  ·rw [w_loop]
   simp (maxSteps := 30000000) (disch := omega) only [go_sem,hn,pc_nb,Int.lt_irrefl,List.foldl_nil]
  ·rw [w_loop]
   simp (maxSteps := 30000000) (disch := omega) only [go_sem,hn,pc_nb,Int.lt_irrefl,List.foldl_nil]
 | @cutd s d e xs g1 g2 g3 g ih =>
  intro hQ hs hd1 hd2 st hi j v fr hj
  have hL := g.le E1
  have hX : StpOk ⟨s,s + 1,s + d,s + d,d,true,false⟩ := ⟨by simp only []; omega,by simp only []; omega,by simp only []; omega,by simp only []; omega,by simp only [],by simp only []; omega,by simp only []; omega,by simp only []; omega,by simp only []; omega,by simp only []; omega⟩
  have i1 := hI st _ hX (hQ _ (by simp)) hi
  rw [show (Stp.mk (s) (s + 1) (s + d) (s + d) (d) (true) (false)).af = s + 1 + (d - 1) by simp only []; omega] at i1
  have i2 := ih (fun X hx => hQ X (by simp [hx])) (by omega) (by omega) (by omega) _ i1
  have hy1 := fun fr => hy st _ fr hX (hQ _ (by simp)) hi
  simp only [stV] at hy1
  rw [List.foldl_cons]
  rcases hj with ⟨rfl,v1,b1,B2,rfl⟩ | ⟨rfl,v0,c0,v1,b1,rfl⟩
  ·obtain ⟨k1,fr',k2⟩ := i2 0 (v + 1) _ (.inl ⟨rfl,_,_,_,rfl⟩)
   refine ⟨k1,fr', ?_⟩
   rw [rd_cutd_0 o ok (hlen st) (hlen _) hlo g1 g2 g3 hs ⟨hd1,hd2⟩ B2 (hy1 _),← k2]
   congr 3
   omega
  ·obtain ⟨k1,fr',k2⟩ := i2 0 (v0 + 1) _ (.inl ⟨rfl,_,_,_,rfl⟩)
   refine ⟨k1,fr', ?_⟩
   rw [rd_cutd_2 o ok (hlen st) (hlen _) hlo g1 g2 g3 hs ⟨hd1,hd2⟩ v0 c0 (hy1 _),← k2]
   congr 3
   omega
 | @cut0 s d e xs g1 g2 g3 g ih =>
  intro hQ hs hd1 hd2 st hi j v fr hj
  have hL := g.le E1
  have hX : StpOk ⟨s,s + 1,s + d,s + d + 1,d,true,false⟩ := ⟨by simp only []; omega,by simp only []; omega,by simp only []; omega,by simp only []; omega,by simp only [],by simp only []; omega,by simp only []; omega,by simp only []; omega,by simp only []; omega,by simp only []; omega⟩
  have i1 := hI st _ hX (hQ _ (by simp)) hi
  rw [show (Stp.mk (s) (s + 1) (s + d) (s + d + 1) (d) (true) (false)).af = s + 1 + (d) by simp only []; omega] at i1
  have i2 := ih (fun X hx => hQ X (by simp [hx])) (by omega) (by omega) (by omega) _ i1
  have hy1 := fun fr => hy st _ fr hX (hQ _ (by simp)) hi
  simp only [stV] at hy1
  rw [List.foldl_cons]
  rcases hj with ⟨rfl,v1,b1,B2,rfl⟩ | ⟨rfl,v0,c0,v1,b1,rfl⟩
  ·obtain ⟨k1,fr',k2⟩ := i2 0 (v + 1) _ (.inl ⟨rfl,_,_,_,rfl⟩)
   refine ⟨k1,fr', ?_⟩
   rw [rd_cut0_0 o ok (hlen st) (hlen _) hlo g1 g2 g3 hs ⟨hd1,hd2⟩ B2 (hy1 _),← k2]
   congr 3
   omega
  ·obtain ⟨k1,fr',k2⟩ := i2 0 (v0 + 1) _ (.inl ⟨rfl,_,_,_,rfl⟩)
   refine ⟨k1,fr', ?_⟩
   rw [rd_cut0_2 o ok (hlen st) (hlen _) hlo g1 g2 g3 hs ⟨hd1,hd2⟩ v0 c0 (hy1 _),← k2]
   congr 3
   omega
 | @str s d e xs g1 g2 g3 g4 g5 g6 g ih =>
  intro hQ hs hd1 hd2 st hi j v fr hj
  have hL := g.le E1
  have hX : StpOk ⟨s,s + x.l.E,s + d,s + d + x.l.E + 1,d,false,true⟩ := ⟨by simp only []; omega,by simp only []; omega,by simp only []; omega,by simp only []; omega,by simp only [],by simp only []; omega,by simp only []; omega,by simp only []; omega,by simp only []; omega,by simp only []; omega⟩
  have i1 := hI st _ hX (hQ _ (by simp)) hi
  rw [show (Stp.mk (s) (s + x.l.E) (s + d) (s + d + x.l.E + 1) (d) (false) (true)).af = s + x.l.E + (d + 1) by simp only []; omega] at i1
  have i2 := ih (fun X hx => hQ X (by simp [hx])) (by omega) (by omega) (by omega) _ i1
  have hy1 := fun fr => hy st _ fr hX (hQ _ (by simp)) hi
  simp only [stV] at hy1
  rw [List.foldl_cons]
  rcases hj with ⟨rfl,v1,b1,B2,rfl⟩ | ⟨rfl,v0,c0,v1,b1,rfl⟩
  ·obtain ⟨k1,fr',k2⟩ := i2 0 (v + 1) _ (.inl ⟨rfl,_,_,_,rfl⟩)
   refine ⟨k1,fr', ?_⟩
   rw [rd_str_0 o ok (hlen st) (hlen _) hlo g1 g2 g3 g4 g5 g6 hs ⟨hd1,hd2⟩ B2 (hy1 _),← k2]
   congr 3
   omega
  ·obtain ⟨k1,fr',k2⟩ := i2 0 (v0 + 1) _ (.inl ⟨rfl,_,_,_,rfl⟩)
   refine ⟨k1,fr', ?_⟩
   rw [rd_str_2 o ok (hlen st) (hlen _) hlo g1 g2 g3 g4 g5 g6 hs ⟨hd1,hd2⟩ v0 c0 (hy1 _),← k2]
   congr 3
   omega
 | @pl s d e xs g1 g2 g3 g ih =>
  intro hQ hs hd1 hd2 st hi j v fr hj
  have hL := g.le E1
  have hX : StpOk ⟨s,s + 1,s + d,s + d + 1,d,false,false⟩ := ⟨by simp only []; omega,by simp only []; omega,by simp only []; omega,by simp only []; omega,by simp only [],by simp only []; omega,by simp only []; omega,by simp only []; omega,by simp only []; omega,by simp only []; omega⟩
  have i1 := hI st _ hX (hQ _ (by simp)) hi
  rw [show (Stp.mk (s) (s + 1) (s + d) (s + d + 1) (d) (false) (false)).af = s + 1 + (d) by simp only []; omega] at i1
  have i2 := ih (fun X hx => hQ X (by simp [hx])) (by omega) (by omega) (by omega) _ i1
  have hy1 := fun fr => hy st _ fr hX (hQ _ (by simp)) hi
  simp only [stV] at hy1
  rw [List.foldl_cons]
  rcases hj with ⟨rfl,v1,b1,B2,rfl⟩ | ⟨rfl,v0,c0,v1,b1,rfl⟩
  ·obtain ⟨k1,fr',k2⟩ := i2 0 (v + 1) _ (.inl ⟨rfl,_,_,_,rfl⟩)
   refine ⟨k1,fr', ?_⟩
   rw [rd_pl_0 o ok (hlen st) (hlen _) hlo g1 g2 g3 hs ⟨hd1,hd2⟩ B2 (hy1 _),← k2]
   congr 3
   omega
  ·obtain ⟨k1,fr',k2⟩ := i2 0 (v0 + 1) _ (.inl ⟨rfl,_,_,_,rfl⟩)
   refine ⟨k1,fr', ?_⟩
   rw [rd_pl_2 o ok (hlen st) (hlen _) hlo g1 g2 g3 hs ⟨hd1,hd2⟩ v0 c0 (hy1 _),← k2]
   congr 3
   omega
theorem course_runQ {Q : Stp → Prop} {x : LV} (o : okV x) (ok : okLiv x.l) (hlen : ∀ st,(H st).length = nb) (hlo : lo ≤ nb)
  (hI : ∀ st X,StpOk X → Q X → Iv X.fr X.be st → Iv X.to X.af (step st X))
  (hy : ∀ st X fr,StpOk X → Q X → Iv X.fr X.be st → yieldv (run lib) ⟨lo,nb,3,none⟩ id iv [stV X] (H st ++ fr) = some (.bool true,H (step st X) ++ fr))
  {e : Int} {xs : List Stp} (h : Ch x.l 0 x.l.D xs e) (hQ : ∀ X ∈ xs,Q X) (st : σ) (hi : Iv 0 x.l.D st) :
  Iv x.l.L (x.l.L + e) (xs.foldl step st) ∧ (run lib).fn 89 [.yld id iv,.cptr [.int .i64 x.l.L,.int .i64 x.l.D,.int .i64 x.l.E,pV x,cV x]] (H st) lo = some (.tuple [],H (xs.foldl step st)) := by
 obtain ⟨D1,D2⟩ := ok.D
 obtain ⟨k1,fr',k2⟩ := course_loopQ o ok hlen hlo hI hy h hQ (Int.le_refl _) D1 (Int.le_refl _) st (by rw [Int.zero_add]; exact hi) 2 1 [(0,.dead),(0,.dead),(1,.box [.int .i64 0])] (.inr ⟨rfl,_,_,_,_,rfl⟩)
 rw [Int.zero_add] at k2
 refine ⟨k1, ?_⟩
 have hn := hlen st
 have ho := run_open (L := lib) (f := 89) (x := x89) (args := [.yld id iv,.cptr [.int .i64 x.l.L,.int .i64 x.l.D,.int .i64 x.l.E,pV x,cV x]]) (h := H st) (lo := lo) rfl rfl rfl rfl (by rw [hn]; exact hlo)
 have e2 : ∀ s' (X : Heap),(H s' ++ X).take nb = H s' := fun s' X => by rw [← hlen s',List.take_left]
 rw [ho,hn]
 simp only [cEnv] at k2
 have hr : List.replicate x89.ns (0,Blk.dead) = [(0,Blk.dead),(0,Blk.dead),(0,Blk.dead)] := rfl
 simp (maxSteps := 30000000) (disch := omega) only [go_sem,x89,hr,hn,cl_cptr,pc_nb,ps_nb,mk_nb,k2,e2]
theorem course_run {x : LV} (o : okV x) (ok : okLiv x.l) (hlen : ∀ st,(H st).length = nb) (hlo : lo ≤ nb)
  (hI : ∀ st X,StpOk X → Iv X.fr X.be st → Iv X.to X.af (step st X))
  (hy : ∀ st X fr,StpOk X → Iv X.fr X.be st → yieldv (run lib) ⟨lo,nb,3,none⟩ id iv [stV X] (H st ++ fr) = some (.bool true,H (step st X) ++ fr))
  {e : Int} {xs : List Stp} (h : Ch x.l 0 x.l.D xs e) (st : σ) (hi : Iv 0 x.l.D st) :
  Iv x.l.L (x.l.L + e) (xs.foldl step st) ∧ (run lib).fn 89 [.yld id iv,.cptr [.int .i64 x.l.L,.int .i64 x.l.D,.int .i64 x.l.E,pV x,cV x]] (H st) lo = some (.tuple [],H (xs.foldl step st)) :=
 course_runQ (Q := fun _ => True) o ok hlen hlo (fun st X h1 _ h2 => hI st X h1 h2) (fun st X fr h1 _ h2 => hy st X fr h1 h2) h (fun _ _ => trivial) st hi
theorem dcourse_run (x : LV) (h : Heap) (lo : Nat) : (run lib).fn 49 [lvV x] h lo = some (.fn 89 [.cptr [.int .i64 x.l.L,.int .i64 x.l.D,.int .i64 x.l.E,pV x,cV x]],h) := by
 unfold lvV
 rw [run_closed (x := x49) rfl rfl rfl rfl]
 simp (maxSteps := 30000000) (disch := omega) only [go_sem,x49]
end
end Go.VI.Dump
namespace Go.VI.Dump
open Go.VI.Num
/- BIGSTEPS -/
theorem and64 : ∀ n : Nat,n < 700 → binv .and (.int .u64 (n : Nat)) (.int .u64 4294967295) = some (.int .u64 (n : Nat)) := by
 have h : (List.range 700).all (fun n => IntKind.u64.wrap (BitVec.ofInt 64 (n : Nat) &&& BitVec.ofInt 64 4294967295).toNat == (n : Nat)) = true := by decide +kernel
 intro n hn
 have := List.all_eq_true.mp h n (List.mem_range.mpr hn)
 simp only [beq_iff_eq] at this
 exact congrArg (fun z => some (AV.int .u64 z)) this
theorem and64' {n : Int} (h0 : 0 ≤ n) (h1 : n < 700) : binv .and (.int .u64 n) (.int .u64 4294967295) = some (.int .u64 n) := by
 obtain ⟨k,rfl⟩ : ∃ k : Nat,n = k := ⟨n.toNat,by omega⟩
 exact and64 k (by omega)
theorem shr64 {n : Int} (h0 : 0 ≤ n) (h1 : n < 700) : binv .shr (.int .u64 n) (.int .u64 32) = some (.int .u64 0) := by
 have : n.fdiv (2 ^ (min (32 : Int).toNat IntKind.u64.bits)) = 0 := by
  rw [show (2 : Int) ^ (min (32 : Int).toNat IntKind.u64.bits) = 4294967296 by decide,Int.fdiv_eq_ediv_of_nonneg _ (by decide)]
  omega
 simp only [binv]
 rw [if_pos (by decide),this]
theorem bmul64_run {n : Int} (h0 : 0 ≤ n) (h1 : n < 700) (h : Heap) (lo : Nat) : (run lib).fn 130 [.int .u64 1,.int .u64 n] h lo = some (.tuple [.int .u64 0,.int .u64 n],h) := by
 have a1 := and64' h0 h1
 have a2 := and64' (n := 1) (by decide) (by decide)
 have a3 := and64' (n := 0) (by decide) (by decide)
 have s1 := shr64 h0 h1
 have s2 := shr64 (n := 1) (by decide) (by decide)
 have s3 := shr64 (n := 0) (by decide) (by decide)
 rw [run_closed (x := x130) rfl rfl rfl rfl]
 simp (maxSteps := 30000000) (disch := omega) only [go_sem,x130,a1,a2,a3,s1,s2,s3,Int.one_mul,Int.zero_mul,Int.add_zero,Int.zero_add,Int.mul_zero]
theorem bmul_run {n : Int} (h0 : 0 ≤ n) (h1 : n < 700) (h : Heap) (lo : Nat) : (run lib).fn 88 [.int .u64 1,.int .u64 n] h lo = some (.tuple [.int .u64 0,.int .u64 n],h) := by
 have e := fun H lo => bmul64_run h0 h1 H lo
 rw [run_closed (x := x88) rfl rfl rfl rfl]
 simp (maxSteps := 30000000) (disch := omega) only [go_sem,x88,e]
def repL (c n : Nat) (x : Int) : List Int := List.replicate n x ++ List.replicate (c - n) 0
theorem repL_len {c n : Nat} (h : n ≤ c) (x : Int) : (repL c n x).length = c := by simp [repL]; omega
theorem rep_loop (h : Heap) (x : Int) (c : Nat) (hc : c ≤ 1000) : ∀ (d n : Nat),n + d = c → 0 < n →
  runC lib ⟨h.length,h.length,1,none⟩ (.loop b48_0) ([(7,.ref (h.length + 0) 1 1 0 c c),(8,.int .i64 n)],h ++ [(1,.arr 1 (ints (repL c n x)))]) =
   some (.exit 0,([(7,.ref (h.length + 0) 1 1 0 c c)],h ++ [(1,.arr 1 (ints (repL c c x)))])) := by
 intro d
 induction d using Nat.strongRecOn with
 | _ d ih =>
  intro n hn h0
  have hl : (ints (repL c n x)).length = c := by rw [ints_len,repL_len (by omega)]
  have ln : lenv false (.ref (h.length + 0) 1 1 0 c c) = some (.int .i64 c) := by simp [lenv,slen]
  rcases Nat.eq_zero_or_pos d with hd | hd
  ·obtain rfl : n = c := by omega
   rw [w_loop]
   simp (maxSteps := 30000000) (disch := omega) only [go_sem,ln,Int.lt_irrefl]
  ·have h1 : (n : Int) < c := by omega
   have s1 : slicev (some 1) (.ref (h.length + 0) 1 1 0 c c) (some (.int .i64 n)) none = some (.ref (h.length + 0) 1 1 n (c - n) c) := by
    rw [slicev_ref,bnd_none,Option.bind_some,bnd_ok (by omega) (by omega)]; simp
   have s2 : slicev (some 1) (.ref (h.length + 0) 1 1 0 c c) none (some (.int .i64 n)) = some (.ref (h.length + 0) 1 1 0 n c) := by
    rw [slicev_ref,bnd_ok (by omega) (by omega),Option.bind_some,bnd_none]; simp
   have s3 : asList (h ++ [(1,.arr 1 (ints (repL c n x)))]) 1 (.ref (h.length + 0) 1 1 0 n c) = some (ints (List.replicate n x)) := by
    have := (Sl.ref (h := h) (fr := [(1,.arr 1 (ints (repL c n x)))]) (s := 0) (ver := 1) (z := 1) (off := 0) (len := n) (fill := c) (es := ints (repL c n x)) rfl hl (by omega)).list0
    rw [this]
    simp [repL,ints]
   have cp := copy_fr (lo := h.length) (ns := 1) (h := h) (fr := [(1,.arr 1 (ints (repL c n x)))]) (s := 0) (ver := 1) (z := 1) (off := n) (len := c - n) (fill := c) (es := ints (repL c n x)) (ys := ints (List.replicate n x)) rfl hl (by omega) (Nat.le_refl _)
   have hm : min (ints (List.replicate n x)).length (c - n) = min n (c - n) := by simp [ints]
   rw [hm] at cp
   have he : (ints (repL c n x)).take n ++ (ints (List.replicate n x)).take (min n (c - n)) ++ (ints (repL c n x)).drop (n + min n (c - n)) = ints (repL c (n + min n (c - n)) x) := by
    simp only [ints,repL,← List.map_take,← List.map_drop,← List.map_append]
    congr 1
    simp only [Nat.zero_add,List.take_append,List.take_replicate,List.drop_append,List.drop_replicate,List.length_replicate]
    rw [show n - (n + min n (c - n)) = 0 by omega]
    generalize hM : min n (c - n) = M
    rw [show min n n = n by omega,show min (n - n) (c - n) = 0 by omega,show min M n = M by omega,show c - n - (n + M - n) = c - (n + M) by omega]
    simp only [List.replicate_zero,List.append_nil,List.nil_append]
    rw [List.replicate_append_replicate]
   rw [he] at cp
   have e := ih (d - min n (c - n)) (by omega) (n + min n (c - n)) (by omega) (by omega)
   rw [Int.natCast_add] at e
   have b1 : ((min n (c - n) : Nat) : Int) ≤ 1000 := by omega
   have b2 : (0 : Int) ≤ ((min n (c - n) : Nat) : Int) := by omega
   generalize min n (c - n) = M at *
   rw [w_loop]
   simp (maxSteps := 30000000) (disch := omega) only [go_sem,ln,h1,s1,s2,s3,cp,e]
theorem rep_run (x : Int) (c : Nat) (hc : c ≤ 600) (h : Heap) (lo : Nat) : (run lib).fn 48 [.lsf 1 [.int .i64 x],.int .i64 c] h lo = some (if c = 0 then .lsf 1 [] else .own 1 (ints (List.replicate c x)),h) := by
 have hm := fun H lo => bmul_run (n := c) (by omega) (by omega) H lo
 have l1 : lenv false (.lsf 1 [.int .i64 x]) = some (.int .i64 1) := rfl
 rw [run_closed (x := x48) rfl rfl rfl rfl]
 rcases Nat.eq_zero_or_pos c with h0 | h0
 ·subst h0
  simp only [Int.natCast_zero] at hm
  have hb : runC lib ⟨h.length,h.length,1,none⟩ (.loop b48_0) ([(7,.lsf 1 []),(8,.int .i64 0)],h ++ [(0,.dead)]) = some (.exit 0,([(7,.lsf 1 [])],h ++ [(0,.dead)])) := by
   rw [w_loop]
   simp (maxSteps := 30000000) (disch := omega) only [go_sem,show lenv false (.lsf 1 []) = some (.int .i64 0) from rfl]
  have cp : copyv ⟨h.length,h.length,1,none⟩ 1 (.lsf 1 []) [.int .i64 x] (h ++ [(0,.dead)]) = some (.int .i64 0,h ++ [(0,.dead)]) := by
   simp [copyv,zok,slen]
  have al : asList (h ++ [(0,.dead)]) 1 (.lsf 1 [.int .i64 x]) = some [.int .i64 x] := (Sl.lsf _ _ _).list0
  have gr : giveRes h.length (.lsf 1 []) (h ++ [(0,.dead)]) = some (.lsf 1 []) := by simp [giveRes,give,frz]
  simp (maxSteps := 30000000) (disch := omega) only [go_sem,x48,hm,l1,mks_zero,cp,al,hb,gr,Option.map_some]
 ·have e := rep_loop h x c (by omega) (c - 1) 1 (by omega) (by omega)
  have cp := copy_fr (lo := h.length) (ns := 1) (h := h) (fr := [(1,.arr 1 (List.replicate c (.int .i64 0)))]) (s := 0) (ver := 1) (z := 1) (off := 0) (len := c) (fill := c) (es := List.replicate c (.int .i64 0)) (ys := [.int .i64 x]) rfl (by simp) (by omega) (Nat.le_refl _)
  have hmin : min [AV.int .i64 x].length c = 1 := by simp; omega
  rw [hmin] at cp
  have he : (List.replicate c (AV.int .i64 0)).take 0 ++ [AV.int .i64 x].take 1 ++ (List.replicate c (AV.int .i64 0)).drop (0 + 1) = ints (repL c 1 x) := by
   simp [ints,repL]
  rw [he] at cp
  have al : ∀ fr : Heap,asList (h ++ fr) 1 (.lsf 1 [.int .i64 x]) = some [.int .i64 x] := fun fr => (Sl.lsf _ _ _).list0
  have h1 : ¬ c = 0 := by omega
  have gv := give_fr (h := h) (s := 0) (ver := 1) (z := 1) (fr := [(1,.arr 1 (ints (repL c c x)))]) (es := ints (repL c c x)) rfl
  have hr : repL c c x = List.replicate c x := by simp [repL]
  rw [ints_len,repL_len (Nat.le_refl _)] at gv
  rw [hr] at gv e
  have c1 : ((1 : Nat) : Int) = 1 := rfl
  rw [c1] at e cp
  have h2 : (0 : Int) < (c : Int) := by omega
  have gr : giveRes h.length (.ref (h.length + 0) 1 1 0 c c) (h ++ [(1,.arr 1 (ints (List.replicate c x)))]) = some (.own 1 (ints (List.replicate c x))) := by
   simp only [giveRes,gv,Option.map_some]
  have h3 : ¬ (c : Int) < 0 := by omega
  have h4 : ¬ 9223372036854775807 < (c : Int) := by omega
  simp (maxSteps := 30000000) (disch := omega) only [go_sem,x48,hm,l1,mks_big,cp,al,e,h1,h3,h4,gr]
end Go.VI.Dump
namespace Go.VI
theorem appv_r {lo base ns s z lim : Nat} {p : Nat × Nat} {x : AV} {xs : List AV} {h : Heap} : appv ⟨lo,base,ns,some p⟩ s z lim x xs h = appv ⟨lo,base,ns,none⟩ s z lim x xs h := by
 cases x <;> rfl
theorem ps_bptr_f {lo ns s ver off : Nat} {h fr : Heap} {v : AV} {p : Nat × Nat} (hlo : lo ≤ h.length) (hc : (Cx.mk lo h.length ns (some p)).fit v = true) (hv : v.cells.length = 1 ∧ v.val = true) :
  pstore ⟨lo,h.length,ns,some p⟩ (h ++ fr) 1 (.bptr (h.length + s) ver off) v = psB s lo ns ver off h fr v fr[s]? := by
 simp only [pstore,hv,and_self,if_true,get_fr]
 cases fr[s]? with
 | none => rfl
 | some x =>
  obtain ⟨w,b⟩ := x
  cases b with
  | box cs =>
   have hle : lo ≤ h.length + s := by omega
   by_cases hw : w = ver
   ·simp [psB,hw,hle,hc,set_fr]
   ·simp [psB,hw]
  | _ => rfl
theorem closed_fit {cx : Cx} {v : AV} (h : v.lowB (cx.base + cx.ns) = true) : cx.fit v = true := by simp [Cx.fit,h]
def agV (n : Nat) (z : Bool) (es : List AV) : AV := if z then (if es = [] then .lsf 1 [] else .ref (n + 2) 1 1 0 es.length es.length) else .ref (n + 3) 1 1 0 es.length es.length
def ag2 (z : Bool) (es : List AV) : Nat × Blk := if z = true ∧ es ≠ [] then (1,.arr 1 es) else (0,.dead)
def ag3 (z : Bool) (es : List AV) : Nat × Blk := if z then (0,.dead) else (1,.arr 1 es)
@[go_sem] theorem agV_cells (n : Nat) (z : Bool) (es : List AV) : (agV n z es).cells = [agV n z es] := by unfold agV; (repeat' split) <;> rfl
@[go_sem] theorem agV_val (n : Nat) (z : Bool) (es : List AV) : (agV n z es).val = true := by unfold agV; (repeat' split) <;> rfl
theorem agV_fit {lo n : Nat} {p : Nat × Nat} {z : Bool} {es : List AV} : (Cx.mk lo n 5 (some p)).fit (agV n z es) = true := by
 refine closed_fit ?_
 unfold agV
 (repeat' split)
 ·rfl
 ·simp [AV.lowB]
 ·simp [AV.lowB]
theorem ag_app {h fr : Heap} {r b o : Nat × Blk} {z : Bool} {es : List AV} {x : AV} (hl : es.length ≤ 100000) :
  appv ⟨h.length,h.length,5,none⟩ 2 1 17592186044416 (agV h.length z es) [x] (h ++ (r :: b :: ag2 z es :: ag3 z es :: o :: fr)) = some (agV h.length z (es ++ [x]),h ++ (r :: b :: ag2 z (es ++ [x]) :: ag3 z (es ++ [x]) :: o :: fr)) := by
 have hne : es ++ [x] ≠ [] := by simp
 cases z with
 | true =>
  by_cases h0 : es = []
  ·subst h0
   have := app_lsf_new (lo := h.length) (ns := 5) (s := 2) (z := 1) (lim := 17592186044416) (h := h) (fr := r :: b :: (0,.dead) :: (0,.dead) :: o :: fr) (ver := 0) (b := .dead) (xs := [x]) (by omega) rfl (by simp) (by simp)
   simp only [agV,ag2,ag3,if_true,ne_eq,not_true_eq_false,and_false,if_false,List.nil_append,reduceCtorEq,not_false_eq_true,and_self]
   rw [this]; rfl
  ·have := app_ref (cx := ⟨h.length,h.length,5,none⟩) (s := 2) (z := 1) (lim := 17592186044416) (id := h.length + 2) (ver := 1) (h := h ++ (r :: b :: (1,.arr 1 es) :: (0,.dead) :: o :: fr)) (es := es) (xs := [x]) (by rw [get_fr]; rfl) (by simp) (by simp; omega)
   simp only [agV,ag2,ag3,if_true,h0,hne,ne_eq,not_false_eq_true,and_self,if_false]
   rw [this,set_fr,List.length_append]; rfl
 | false =>
  have := app_ref (cx := ⟨h.length,h.length,5,none⟩) (s := 2) (z := 1) (lim := 17592186044416) (id := h.length + 3) (ver := 1) (h := h ++ (r :: b :: (0,.dead) :: (1,.arr 1 es) :: o :: fr)) (es := es) (xs := [x]) (by rw [get_fr]; rfl) (by simp) (by simp; omega)
  simp only [agV,ag2,ag3,Bool.false_eq_true,if_false,false_and]
  rw [this,set_fr,List.length_append]; rfl
theorem ag_give {h fr : Heap} {r b o : Nat × Blk} {z : Bool} {es : List AV} (hz : z = true → es ≠ []) : ∃ h',give h.length (agV h.length z es) (h ++ (r :: b :: ag2 z es :: ag3 z es :: o :: fr)) = some (.own 1 es,h') := by
 cases z with
 | true =>
  have h0 := hz rfl
  simp only [agV,ag2,ag3,if_true,h0,ne_eq,not_false_eq_true,and_self,if_false]
  exact ⟨_,give_fr rfl⟩
 | false =>
  simp only [agV,ag2,ag3,Bool.false_eq_true,if_false,false_and]
  exact ⟨_,give_fr rfl⟩
end Go.VI
namespace Go.VI.Dump
open Go.VI.Num
/- BIGSTEPS -/
def airE (x : Stp) (k : Nat) : Int := if x.cut then -1 else max (x.to - (x.af - (x.be + (k : Int)))) x.fr
theorem airS_len (x : Stp) : (airS x).length = (x.af - x.be).toNat := by simp [airS]
theorem airS_take {x : Stp} {k : Nat} (h : k < (x.af - x.be).toNat) : (airS x).take (k + 1) = (airS x).take k ++ [airE x k] := by
 rw [List.take_succ_eq_append_getElem (by rw [airS_len]; exact h)]
 congr 1
 simp [airS,airE]
theorem lint_app1 (a : List Int) (x : Int) : ints (a ++ [x]) = ints a ++ [.int .i64 x] := by simp [ints]
theorem air_in {X : Stp} (hX : StpOk X) {h fr : Heap} {z : Bool} {R : Nat × Blk} {p : Nat × Nat} {v : Nat} {es : List Int} (hl : es.length ≤ 700) : ∀ (d k : Nat),k + d = (X.af - X.be).toNat →
  runC lib ⟨h.length,h.length,5,some p⟩ (.loop b14_0) ([(4,.bptr (h.length + 4) 1 0),(5,.bptr (h.length + 1) v 0),(6,.int .i64 (X.be + k))],h ++ (R :: (v,.box (stC X)) :: ag2 z (ints (es ++ (airS X).take k)) :: ag3 z (ints (es ++ (airS X).take k)) :: (1,.box [agV h.length z (ints (es ++ (airS X).take k))]) :: fr)) =
   some (.exit 2,([],h ++ (R :: (v,.box (stC X)) :: ag2 z (ints (es ++ airS X)) :: ag3 z (ints (es ++ airS X)) :: (1,.box [agV h.length z (ints (es ++ airS X))]) :: fr))) := by
 obtain ⟨x1,x2,x3,x4,x5,x6,x7,x8,x9,x10⟩ := hX
 have hal := airS_len X
 intro d
 induction d with
 | zero =>
  intro k hk
  have c : ¬ X.be + (k : Int) < X.af := by omega
  rw [List.take_of_length_le (by omega),w_loop]
  simp (maxSteps := 30000000) (disch := omega) only [go_sem,stC,c]
 | succ d ih =>
  intro k hk
  have c : X.be + (k : Int) < X.af := by omega
  have e := ih (k + 1) (by omega)
  have hlt : ((airS X).take k).length = k := by rw [List.length_take]; omega
  rw [airS_take (by omega),← List.append_assoc,lint_app1,cast1,← Int.add_assoc] at e
  have hL : (es ++ (airS X).take k).length ≤ 1000 := by rw [List.length_append]; omega
  generalize es ++ (airS X).take k = L at *
  have ea := fun x fr => ag_app (h := h) (r := R) (b := (v,.box (stC X))) (o := (1,.box [agV h.length z (ints L)])) (fr := fr) (z := z) (es := ints L) (x := x) (by simp; omega)
  have ea : ∀ x fr,appv ⟨h.length,h.length,5,some p⟩ 2 1 17592186044416 (agV h.length z (ints L)) [x] (h ++ (R :: (v,.box (stC X)) :: ag2 z (ints L) :: ag3 z (ints L) :: (1,.box [agV h.length z (ints L)]) :: fr)) = _ := fun x fr => (appv_r (p := p)).trans (ea x fr)
  have es := fun x (fr : Heap) => ps_bptr_f (lo := h.length) (ns := 5) (s := 4) (ver := 1) (off := 0) (h := h) (p := p) (fr := R :: (v,.box (stC X)) :: ag2 z (ints L ++ [x]) :: ag3 z (ints L ++ [x]) :: (1,.box [agV h.length z (ints L)]) :: fr) (v := agV h.length z (ints L ++ [x])) (Nat.le_refl _) agV_fit ⟨by rw [agV_cells]; rfl,agV_val _ _ _⟩
  simp only [stC] at ea es e ⊢
  rw [w_loop]
  unfold airE at e
  cases hc : X.cut
  ·rw [hc] at e ea es
   simp only [Bool.false_eq_true,if_false] at e
   simp (maxSteps := 30000000) (disch := omega) only [go_sem,c,hc,ea,es,e]
  ·rw [hc] at e ea es
   simp only [if_true] at e
   simp (maxSteps := 30000000) (disch := omega) only [go_sem,c,hc,ea,es,e]
end Go.VI.Dump
namespace Go.VI.Dump
open Go.VI.Num
/- BIGSTEPS -/
abbrev lvP (x : LV) : AV := .cptr [.int .i64 x.l.L,.int .i64 x.l.D,.int .i64 x.l.E,pV x,cV x]
abbrev AS := List Int × Nat × Blk
def airEnv (h : Heap) (x : LV) : Env := [(2,.nilSl),(3,.int .i64 0),(4,.bptr (h.length + 4) 1 0),(16,.fn 89 [lvP x])]
def airD (h : Heap) (x : LV) : Rcd := ⟨0,h.length,h.length,5,airEnv h x⟩
def airH (h : Heap) (x : LV) (z : Bool) (st : AS) : Heap := h ++ [(1,.rcd (airD h x) .ready),st.2,ag2 z (ints st.1),ag3 z (ints st.1),(1,.box [agV h.length z (ints st.1)])]
def airT (st : AS) (X : Stp) : AS := (st.1 ++ airS X,st.2.1 + 1,.box (stC X))
def airI (s a : Int) (st : AS) : Prop := (st.1.length : Int) = a
theorem air_yield {x : LV} (h : Heap) (z : Bool) (st : AS) (X : Stp) (fr : Heap) (hX : StpOk X) (hi : airI X.fr X.be st) :
  yieldv (run lib) ⟨h.length,h.length + 5,3,none⟩ (h.length + 0) 1 [stV X] (airH h x z st ++ fr) = some (.bool true,airH h x z (airT st X) ++ fr) := by
 obtain ⟨out,v,b⟩ := st
 simp only [airI] at hi
 have hb := hX.af3
 have hba := hX.af
 obtain ⟨D,hD⟩ : ∃ D : Rcd,D = airD h x := ⟨_,rfl⟩
 simp only [airH,airT,List.append_assoc,List.cons_append,List.nil_append,← hD]
 have ha : runC lib ⟨h.length,h.length,5,some (h.length + 0,1)⟩ r0.asg ((r0.ps.zip [stV X]).foldl (fun e p => e.set p.1 p.2) (airEnv h x),h ++ ((1,.rcd D .ready) :: (v,b) :: ag2 z (ints out) :: ag3 z (ints out) :: (1,.box [agV h.length z (ints out)]) :: fr)) =
   some (.norm,([(4,.bptr (h.length + 4) 1 0),(5,.bptr (h.length + 1) (v + 1) 0)],h ++ ((1,.rcd D .ready) :: (v + 1,.box (stC X)) :: ag2 z (ints out) :: ag3 z (ints out) :: (1,.box [agV h.length z (ints out)]) :: fr))) := by
  have em : mkAt ⟨h.length,h.length,5,some (h.length + 0,1)⟩ 1 (.box [.int .i64 0,.int .i64 0,.int .i64 0,.int .i64 0,.int .i64 0,.bool false,.bool false]) (h ++ ((1,.rcd D .ready) :: (v,b) :: ag2 z (ints out) :: ag3 z (ints out) :: (1,.box [agV h.length z (ints out)]) :: fr)) = some (v + 1,h ++ ((1,.rcd D .ready) :: (v + 1,.box [.int .i64 0,.int .i64 0,.int .i64 0,.int .i64 0,.int .i64 0,.bool false,.bool false]) :: ag2 z (ints out) :: ag3 z (ints out) :: (1,.box [agV h.length z (ints out)]) :: fr)) := by
   rw [mkAt_r (by rfl)]
   simp (maxSteps := 30000000) (disch := omega) only [go_sem]
  have es : pstore ⟨h.length,h.length,5,some (h.length + 0,1)⟩ (h ++ ((1,.rcd D .ready) :: (v + 1,.box [.int .i64 0,.int .i64 0,.int .i64 0,.int .i64 0,.int .i64 0,.bool false,.bool false]) :: ag2 z (ints out) :: ag3 z (ints out) :: (1,.box [agV h.length z (ints out)]) :: fr)) 7 (.bptr (h.length + 1) (v + 1) 0) (stV X) = some (h ++ ((1,.rcd D .ready) :: (v + 1,.box (stC X)) :: ag2 z (ints out) :: ag3 z (ints out) :: (1,.box [agV h.length z (ints out)]) :: fr)) := by
   rw [ps_bptr_r (by omega) (by rfl)]
   simp (maxSteps := 30000000) (disch := omega) only [go_sem,stV,stC]
  simp (maxSteps := 30000000) (disch := omega) only [go_sem,r0,airEnv,em,es,List.zip_cons_cons,List.zip_nil_right,List.foldl_cons,List.foldl_nil]
 have hb : ∃ env2,runC lib ⟨h.length,h.length,5,some (h.length + 0,1)⟩ r0.body ([(4,.bptr (h.length + 4) 1 0),(5,.bptr (h.length + 1) (v + 1) 0)],(h ++ ((1,.rcd D .ready) :: (v + 1,.box (stC X)) :: ag2 z (ints out) :: ag3 z (ints out) :: (1,.box [agV h.length z (ints out)]) :: fr)).set (h.length + 0) (1,.rcd D .busy)) =
   some (.norm,(env2,h ++ ((1,.rcd D .busy) :: (v + 1,.box (stC X)) :: ag2 z (ints (out ++ airS X)) :: ag3 z (ints (out ++ airS X)) :: (1,.box [agV h.length z (ints (out ++ airS X))]) :: fr))) := by
  refine ⟨[], ?_⟩
  rw [set_fr]
  have e := air_in hX (h := h) (fr := fr) (z := z) (R := (1,.rcd D .busy)) (p := (h.length + 0,1)) (v := v + 1) (es := out) (by omega) (X.af - X.be).toNat 0 (by omega)
  simp only [List.take_zero,List.append_nil,Int.natCast_zero,Int.add_zero] at e
  simp only [stC] at e ⊢
  simp (maxSteps := 30000000) (disch := omega) only [go_sem,r0,e]
 obtain ⟨env2,hb⟩ := hb
 have hg : (h ++ ((1,Blk.rcd D .ready) :: (v,b) :: ag2 z (ints out) :: ag3 z (ints out) :: (1,.box [agV h.length z (ints out)]) :: fr))[h.length + 0]? = some (1,.rcd ⟨0,h.length,h.length,5,airEnv h x⟩ .ready) := by rw [get_fr,hD]; rfl
 have := yield_round (L := lib) (cx := ⟨h.length,h.length + 5,3,none⟩) hg (Nat.le_refl _) (by omega) (Nat.le_refl _) (by simp [stV,AV.closedL,AV.closed]) (x := r0) rfl rfl ha (by rw [get_fr]; rfl) hb (by rw [get_fr]; rfl)
 rw [this,set_fr]
 rfl
theorem airT_fst (xs : List Stp) : ∀ st : AS,(xs.foldl airT st).1 = st.1 ++ airX xs := by
 induction xs with
 | nil => intro st; simp [airX]
 | cons X xs ih => intro st; rw [List.foldl_cons,ih]; simp [airT,airX]
theorem airT_I (st : AS) (X : Stp) (hX : StpOk X) (hi : airI X.fr X.be st) : airI X.to X.af (airT st X) := by
 have := hX.af
 simp only [airI,airT,List.length_append,airS_len] at *
 omega
theorem airX_ne {l : Liv} (ok : okLiv l) {xs : List Stp} {e : Int} (h : Ch l 0 l.D xs e) (hD : l.D = 0) : airX xs ≠ [] := by
 intro h0
 have h1 := h.air_len ok.E.1
 have h2 := h.dl ok.D.1 (Int.le_refl _)
 have h3 := ok.L
 rw [h0] at h1
 simp at h1
 omega
theorem dair_run {x : LV} (o : okV x) (ok : okLiv x.l) {xs : List Stp} {e : Int} (hc : Ch x.l 0 x.l.D xs e) (h : Heap) (lo : Nat) :
  (run lib).fn 14 [lvV x] h lo = some (.tuple [.own 1 (ints (airL x.l xs)),.int .i64 0],h) := by
 have ev := fun H lo => dvalid_run o H lo
 rw [valB_ok.mpr ok] at ev
 obtain ⟨D1,D2⟩ := ok.D
 obtain ⟨N,hN⟩ : ∃ N : Nat,x.l.D = N := ⟨x.l.D.toNat,by omega⟩
 have er := fun H lo => rep_run (-1) N (by omega) H lo
 rw [← hN] at er
 have dc := fun H lo => dcourse_run x H lo
 obtain ⟨z,hz⟩ : ∃ z : Bool,z = decide (N = 0) := ⟨_,rfl⟩
 have hlen : ∀ st,(airH h x z st).length = h.length + 5 := fun st => by simp [airH]
 have g2 := course_run (id := h.length + 0) (iv := 1) (H := airH h x z) (nb := h.length + 5) (lo := h.length) (step := airT) (Iv := airI) o ok hlen (by omega) (fun st X hX hi => airT_I st X hX hi) (fun st X fr hX hi => air_yield (x := x) h z st X fr hX hi) hc (List.replicate N (-1),0,.dead) (by simp [airI,hN])
 obtain ⟨_,g2⟩ := g2
 obtain ⟨st,hst⟩ : ∃ st,st = xs.foldl airT (List.replicate N (-1),0,.dead) := ⟨_,rfl⟩
 have hs1 : st.1 = airL x.l xs := by rw [hst,airT_fst]; unfold airL; rw [hN]; rfl
 rw [← hst] at g2
 obtain ⟨out,vb⟩ := st
 simp only at hs1
 subst hs1
 have hne : z = true → ints (airL x.l xs) ≠ [] := by
  intro h1
  rw [hz] at h1
  have h0 : N = 0 := of_decide_eq_true h1
  have := airX_ne ok hc (by omega)
  unfold airL ints
  simp [this]
 have g3 := w_rfn (L := lib) (lo := h.length) (ns := 5) (s := 0) (g := 0) (it := 89) (v := 0) (caps := [lvP x]) (env := airEnv h x) (h := h) (b := .dead)
  (fr := [(0,.dead),(0,.dead),ag2 z (ints (List.replicate N (-1))),ag3 z (ints (List.replicate N (-1))),(1,.box [agV h.length z (ints (List.replicate N (-1)))])])
  (fr' := [(1,.rcd (airD h x) .ready),vb,ag2 z (ints (airL x.l xs)),ag3 z (ints (airL x.l xs)),(1,.box [agV h.length z (ints (airL x.l xs))])])
  (f := .t 16) rfl (by omega) rfl g2 rfl
 obtain ⟨h',gv⟩ := ag_give (h := h) (fr := []) (r := (1 + 0,.dead)) (b := vb) (o := (1,.box [agV h.length z (ints (airL x.l xs))])) hne
 simp only [airEnv,List.set_cons_zero] at g3
 unfold lvV at ev dc ⊢
 rw [run_closed (x := x14) rfl rfl rfl rfl]
 by_cases h0 : N = 0
 ·have hz1 : z = true := by rw [hz]; exact decide_eq_true h0
  subst hz1
  subst h0
  simp only [if_true] at er
  have a1 : agV h.length true (ints (List.replicate 0 (-1))) = .lsf 1 [] := rfl
  have a2 : ag2 true (ints (List.replicate 0 (-1))) = (0,.dead) := rfl
  have a3 : ag3 true (ints (List.replicate 0 (-1))) = (0,.dead) := rfl
  rw [a1,a2,a3] at g3
  have tk : ∀ H : Heap,bck ⟨h.length,h.length,5,none⟩ [(0,3)] (some (.lsf 1 [],H)) = some (.lsf 1 [],H) := fun H => by simp [bck,takeOver,weak,weak1]
  have lc : (AV.lsf 1 []).cells = [.lsf 1 []] := rfl
  have lv : (AV.lsf 1 []).val = true := rfl
  simp (maxSteps := 30000000) (disch := omega) only [go_sem,x14,ev,er,dc,tk,g3,gv,lc,lv]
 ·have hz1 : z = false := by rw [hz]; exact decide_eq_false h0
  subst hz1
  simp only [h0,if_false] at er
  have hne2 : ints (List.replicate N (-1)) ≠ [] := by simp [ints]; omega
  have a1 : agV h.length false (ints (List.replicate N (-1))) = .ref (h.length + 3) (0 + 1) 1 0 (ints (List.replicate N (-1))).length (ints (List.replicate N (-1))).length := rfl
  have a2 : ag2 false (ints (List.replicate N (-1))) = (0,.dead) := rfl
  have a3 : ag3 false (ints (List.replicate N (-1))) = (0 + 1,.arr 1 (ints (List.replicate N (-1)))) := rfl
  rw [a1,a2,a3] at g3
  have tk := take_own (lo := h.length) (ns := 5) (s := 3) (z := 1) (h := h) (fr := [(0,.dead),(0,.dead),(0,.dead),(0,.dead),(0,.dead)]) (b0 := (0,.dead)) (es := ints (List.replicate N (-1))) (by omega) rfl hne2
  rw [show ownV 1 (ints (List.replicate N (-1))) = .own 1 (ints (List.replicate N (-1))) from if_neg hne2] at tk
  simp (maxSteps := 30000000) (disch := omega) only [go_sem,x14,ev,er,dc,tk,g3,gv]
end Go.VI.Dump
namespace Go.VI
theorem accV_fit {lo base ns s : Nat} {p : Nat × Nat} {b0 : Nat × Blk} {z : Nat} {es : List AV} (h : s < ns) : (Cx.mk lo base ns (some p)).fit (accV (base + s) b0 z es) = true := by
 unfold accV
 split
 ·rfl
 ·simp [Cx.fit,AV.lowB,h]
end Go.VI
namespace Go.VI.Dump
open Go.VI.Num
/- BIGSTEPS -/
theorem rep_succ (x : Int) (k : Nat) : List.replicate (k + 1) x = List.replicate k x ++ [x] := by rw [← List.replicate_append_replicate]; rfl
theorem del_in {X : Stp} (hX : StpOk X) {h fr : Heap} {R : Nat × Blk} {p : Nat × Nat} {v : Nat} {es : List Int} (hl : es.length ≤ 700) : ∀ (d k : Nat),k + d = (X.to - X.fr).toNat →
  runC lib ⟨h.length,h.length,4,some p⟩ (.loop b16_0) ([(4,.bptr (h.length + 3) 1 0),(5,.bptr (h.length + 1) v 0),(18,.int .i64 (X.to - X.fr)),(19,.int .i64 k)],h ++ (R :: (v,.box (stC X)) :: accB (0,.dead) 1 (ints (es ++ List.replicate k X.de)) :: (1,.box [accV (h.length + 2) (0,.dead) 1 (ints (es ++ List.replicate k X.de))]) :: fr)) =
   some (.exit 2,([],h ++ (R :: (v,.box (stC X)) :: accB (0,.dead) 1 (ints (es ++ List.replicate (X.to - X.fr).toNat X.de)) :: (1,.box [accV (h.length + 2) (0,.dead) 1 (ints (es ++ List.replicate (X.to - X.fr).toNat X.de))]) :: fr))) := by
 obtain ⟨x1,x2,x3,x4,x5,x6,x7,x8,x9,x10⟩ := hX
 intro d
 induction d with
 | zero =>
  intro k hk
  obtain rfl : k = (X.to - X.fr).toNat := by omega
  have c : ¬ ((X.to - X.fr).toNat : Int) < X.to - X.fr := by omega
  rw [w_loop]
  simp (maxSteps := 30000000) (disch := omega) only [go_sem,stC,c]
 | succ d ih =>
  intro k hk
  have c : (k : Int) < X.to - X.fr := by omega
  have e := ih (k + 1) (by omega)
  rw [rep_succ X.de k,← List.append_assoc,lint_app1,cast1] at e
  have hL : (es ++ List.replicate k X.de).length ≤ 1000 := by rw [List.length_append,List.length_replicate]; omega
  generalize es ++ List.replicate k X.de = L at *
  have ea := app_acc (lo := h.length) (ns := 4) (s := 2) (z := 1) (lim := 17592186044416) (h := h) (fr := R :: (v,.box (stC X)) :: accB (0,.dead) 1 (ints L) :: (1,.box [accV (h.length + 2) (0,.dead) 1 (ints L)]) :: fr) (b0 := (0,.dead)) (es := ints L) (xs := [.int .i64 X.de]) (by omega) (by omega) rfl (by simp; omega)
  rw [← appv_r (p := p)] at ea
  have es := ps_bptr_f (lo := h.length) (ns := 4) (s := 3) (ver := 1) (off := 0) (h := h) (p := p) (fr := R :: (v,.box (stC X)) :: accB (0,.dead) 1 (ints L ++ [.int .i64 X.de]) :: (1,.box [accV (h.length + 2) (0,.dead) 1 (ints L)]) :: fr) (v := accV (h.length + 2) (0,.dead) 1 (ints L ++ [.int .i64 X.de])) (Nat.le_refl _) (accV_fit (by omega)) ⟨by rw [accV_cells]; rfl,accV_val _ _ _ _⟩
  simp only [stC] at ea es e ⊢
  rw [w_loop]
  simp (maxSteps := 30000000) (disch := omega) only [go_sem,c,ea,es,e,accV_cells]
def delEnv (h : Heap) (x : LV) : Env := [(2,.nilSl),(3,.int .i64 0),(4,.bptr (h.length + 3) 1 0),(10,.fn 89 [lvP x])]
def delD (h : Heap) (x : LV) : Rcd := ⟨1,h.length,h.length,4,delEnv h x⟩
def delH (h : Heap) (x : LV) (st : AS) : Heap := h ++ [(1,.rcd (delD h x) .ready),st.2,accB (0,.dead) 1 (ints st.1),(1,.box [accV (h.length + 2) (0,.dead) 1 (ints st.1)])]
def delT (st : AS) (X : Stp) : AS := (st.1 ++ List.replicate (X.to - X.fr).toNat X.de,st.2.1 + 1,.box (stC X))
def delI (s a : Int) (st : AS) : Prop := (st.1.length : Int) = s
theorem del_yield {x : LV} (h : Heap) (st : AS) (X : Stp) (fr : Heap) (hX : StpOk X) (hi : delI X.fr X.be st) :
  yieldv (run lib) ⟨h.length,h.length + 4,3,none⟩ (h.length + 0) 1 [stV X] (delH h x st ++ fr) = some (.bool true,delH h x (delT st X) ++ fr) := by
 obtain ⟨out,v,b⟩ := st
 simp only [delI] at hi
 have hb := hX.hi
 have hba := hX.to
 obtain ⟨D,hD⟩ : ∃ D : Rcd,D = delD h x := ⟨_,rfl⟩
 simp only [delH,delT,List.append_assoc,List.cons_append,List.nil_append,← hD]
 have ha : runC lib ⟨h.length,h.length,4,some (h.length + 0,1)⟩ r1.asg ((r1.ps.zip [stV X]).foldl (fun e p => e.set p.1 p.2) (delEnv h x),h ++ ((1,.rcd D .ready) :: (v,b) :: accB (0,.dead) 1 (ints out) :: (1,.box [accV (h.length + 2) (0,.dead) 1 (ints out)]) :: fr)) =
   some (.norm,([(4,.bptr (h.length + 3) 1 0),(5,.bptr (h.length + 1) (v + 1) 0)],h ++ ((1,.rcd D .ready) :: (v + 1,.box (stC X)) :: accB (0,.dead) 1 (ints out) :: (1,.box [accV (h.length + 2) (0,.dead) 1 (ints out)]) :: fr))) := by
  have em : mkAt ⟨h.length,h.length,4,some (h.length + 0,1)⟩ 1 (.box [.int .i64 0,.int .i64 0,.int .i64 0,.int .i64 0,.int .i64 0,.bool false,.bool false]) (h ++ ((1,.rcd D .ready) :: (v,b) :: accB (0,.dead) 1 (ints out) :: (1,.box [accV (h.length + 2) (0,.dead) 1 (ints out)]) :: fr)) = some (v + 1,h ++ ((1,.rcd D .ready) :: (v + 1,.box [.int .i64 0,.int .i64 0,.int .i64 0,.int .i64 0,.int .i64 0,.bool false,.bool false]) :: accB (0,.dead) 1 (ints out) :: (1,.box [accV (h.length + 2) (0,.dead) 1 (ints out)]) :: fr)) := by
   rw [mkAt_r (by rfl)]
   simp (maxSteps := 30000000) (disch := omega) only [go_sem]
  have es : pstore ⟨h.length,h.length,4,some (h.length + 0,1)⟩ (h ++ ((1,.rcd D .ready) :: (v + 1,.box [.int .i64 0,.int .i64 0,.int .i64 0,.int .i64 0,.int .i64 0,.bool false,.bool false]) :: accB (0,.dead) 1 (ints out) :: (1,.box [accV (h.length + 2) (0,.dead) 1 (ints out)]) :: fr)) 7 (.bptr (h.length + 1) (v + 1) 0) (stV X) = some (h ++ ((1,.rcd D .ready) :: (v + 1,.box (stC X)) :: accB (0,.dead) 1 (ints out) :: (1,.box [accV (h.length + 2) (0,.dead) 1 (ints out)]) :: fr)) := by
   rw [ps_bptr_r (by omega) (by rfl)]
   simp (maxSteps := 30000000) (disch := omega) only [go_sem,stV,stC]
  simp (maxSteps := 30000000) (disch := omega) only [go_sem,r1,delEnv,em,es,List.zip_cons_cons,List.zip_nil_right,List.foldl_cons,List.foldl_nil]
 have hb : ∃ env2,runC lib ⟨h.length,h.length,4,some (h.length + 0,1)⟩ r1.body ([(4,.bptr (h.length + 3) 1 0),(5,.bptr (h.length + 1) (v + 1) 0)],(h ++ ((1,.rcd D .ready) :: (v + 1,.box (stC X)) :: accB (0,.dead) 1 (ints out) :: (1,.box [accV (h.length + 2) (0,.dead) 1 (ints out)]) :: fr)).set (h.length + 0) (1,.rcd D .busy)) =
   some (.norm,(env2,h ++ ((1,.rcd D .busy) :: (v + 1,.box (stC X)) :: accB (0,.dead) 1 (ints (out ++ List.replicate (X.to - X.fr).toNat X.de)) :: (1,.box [accV (h.length + 2) (0,.dead) 1 (ints (out ++ List.replicate (X.to - X.fr).toNat X.de))]) :: fr))) := by
  refine ⟨[], ?_⟩
  rw [set_fr]
  have e := del_in hX (h := h) (fr := fr) (R := (1,.rcd D .busy)) (p := (h.length + 0,1)) (v := v + 1) (es := out) (by omega) (X.to - X.fr).toNat 0 (by omega)
  have x1 := hX.fr
  have x2 := hX.tf
  simp only [List.replicate_zero,List.append_nil,Int.natCast_zero,Int.add_zero] at e
  simp only [stC] at e ⊢
  simp (maxSteps := 30000000) (disch := omega) only [go_sem,r1,e]
 obtain ⟨env2,hb⟩ := hb
 have hg : (h ++ ((1,Blk.rcd D .ready) :: (v,b) :: accB (0,.dead) 1 (ints out) :: (1,.box [accV (h.length + 2) (0,.dead) 1 (ints out)]) :: fr))[h.length + 0]? = some (1,.rcd ⟨1,h.length,h.length,4,delEnv h x⟩ .ready) := by rw [get_fr,hD]; rfl
 have := yield_round (L := lib) (cx := ⟨h.length,h.length + 4,3,none⟩) hg (Nat.le_refl _) (by omega) (Nat.le_refl _) (by simp [stV,AV.closedL,AV.closed]) (x := r1) rfl rfl ha (by rw [get_fr]; rfl) hb (by rw [get_fr]; rfl)
 rw [this,set_fr]
 rfl
theorem delT_fst (xs : List Stp) : ∀ st : AS,(xs.foldl delT st).1 = st.1 ++ delX xs := by
 induction xs with
 | nil => intro st; simp [delX]
 | cons X xs ih => intro st; rw [List.foldl_cons,ih]; simp [delT,delX]
theorem delT_I (st : AS) (X : Stp) (hX : StpOk X) (hi : delI X.fr X.be st) : delI X.to X.af (delT st X) := by
 have := hX.to
 simp only [delI,delT,List.length_append,List.length_replicate] at *
 omega
theorem ddel_run {x : LV} (o : okV x) (ok : okLiv x.l) {xs : List Stp} {e : Int} (hc : Ch x.l 0 x.l.D xs e) (h : Heap) (lo : Nat) :
  (run lib).fn 16 [lvV x] h lo = some (.tuple [ownV 1 (ints (delX xs)),.int .i64 0],h) := by
 have ev := fun H lo => dvalid_run o H lo
 rw [valB_ok.mpr ok] at ev
 obtain ⟨D1,D2⟩ := ok.D
 have dc := fun H lo => dcourse_run x H lo
 have hlen : ∀ st,(delH h x st).length = h.length + 4 := fun st => by simp [delH]
 have g2 := course_run (id := h.length + 0) (iv := 1) (H := delH h x) (nb := h.length + 4) (lo := h.length) (step := delT) (Iv := delI) o ok hlen (by omega) (fun st X hX hi => delT_I st X hX hi) (fun st X fr hX hi => del_yield (x := x) h st X fr hX hi) hc ([],0,.dead) (by simp [delI])
 obtain ⟨_,g2⟩ := g2
 obtain ⟨st,hst⟩ : ∃ st,st = xs.foldl delT ([],0,.dead) := ⟨_,rfl⟩
 have hs1 : st.1 = delX xs := by rw [hst,delT_fst]; simp
 rw [← hst] at g2
 obtain ⟨out,vb⟩ := st
 simp only at hs1
 subst hs1
 have g3 := w_rfn (L := lib) (lo := h.length) (ns := 4) (s := 0) (g := 1) (it := 89) (v := 0) (caps := [lvP x]) (env := delEnv h x) (h := h) (b := .dead)
  (fr := [(0,.dead),(0,.dead),(0,.dead),(1,.box [.nilSl])])
  (fr' := [(1,.rcd (delD h x) .ready),vb,accB (0,.dead) 1 (ints (delX xs)),(1,.box [accV (h.length + 2) (0,.dead) 1 (ints (delX xs))])])
  (f := .t 10) rfl (by omega) rfl g2 rfl
 have g4 := give_acc (s := 2) (z := 1) (h := h) (b0 := (0,.dead)) (es := ints (delX xs)) (fr := [(1 + 0,.dead),vb,accB (0,.dead) 1 (ints (delX xs)),(1,.box [accV (h.length + 2) (0,.dead) 1 (ints (delX xs))])]) rfl
 simp only [delEnv,List.set_cons_zero] at g3
 unfold lvV at ev dc ⊢
 rw [run_closed (x := x16) rfl rfl rfl rfl]
 simp (maxSteps := 30000000) (disch := omega) only [go_sem,x16,ev,dc,g3,g4]
end Go.VI.Dump
namespace Go.VI.Dump
open Go.VI.Num
/- BIGSTEPS -/
def fulZ (l : Liv) (X : Stp) (out : List Int) : List Int := List.zipWith (fun (c : Pr) o => fulT l c.2 o X) l.C out
def fulK (l : Liv) (X : Stp) (out : List Int) (k : Nat) : List Int := (fulZ l X out).take k ++ out.drop k
theorem fulZ_len {l : Liv} {X : Stp} {out : List Int} (h : out.length = l.C.length) : (fulZ l X out).length = l.C.length := by simp [fulZ,h]
theorem fulK_len {l : Liv} {X : Stp} {out : List Int} (h : out.length = l.C.length) {k : Nat} (hk : k ≤ l.C.length) : (fulK l X out k).length = l.C.length := by
 simp [fulK,fulZ_len h,h]; omega
theorem fulK_get {l : Liv} {X : Stp} {out : List Int} (h : out.length = l.C.length) {k : Nat} (hk : k < l.C.length) : (fulK l X out k)[k]'(by rw [fulK_len h (by omega)]; exact hk) = out[k] := by
 have : ((fulZ l X out).take k).length = k := by rw [List.length_take,fulZ_len h]; omega
 unfold fulK
 rw [List.getElem_append_right (by omega)]
 simp [this]
theorem fulK_next {l : Liv} {X : Stp} {out : List Int} (h : out.length = l.C.length) {k : Nat} (hk : k < l.C.length) : fulK l X out (k + 1) = (fulK l X out k).set k (fulT l l.C[k].2 out[k] X) := by
 have h1 : ((fulZ l X out).take k).length = k := by rw [List.length_take,fulZ_len h]; omega
 have h2 : (fulZ l X out)[k]'(by rw [fulZ_len h]; exact hk) = fulT l l.C[k].2 out[k] X := by simp [fulZ]
 unfold fulK
 rw [List.set_append_right _ _ (by omega),h1,Nat.sub_self,List.take_succ_eq_append_getElem (by rw [fulZ_len h]; exact hk),h2,List.drop_eq_getElem_cons (show k < out.length by omega),List.set_cons_zero,List.append_assoc,List.singleton_append]
def fo (n : Nat) (x : LV) : AV := if x.l.C.length = 0 then .lsf 1 [] else .ref (n + 3) 1 1 0 x.l.C.length x.l.C.length
def fb (x : LV) (out : List Int) : Nat × Blk := if x.l.C.length = 0 then (0,.dead) else (1,.arr 1 (ints out))
def fbx : List Pr → Nat × Blk → Nat × Blk
 | [],B => B
 | q :: r,B => fbx r (B.1 + 1,.box [.int .i64 q.1,.int .i64 q.2])
theorem ful_in {x : LV} (o : okV x) (h4 : x.l.C.length ≤ 4) {X : Stp} {h fr : Heap} {R : Nat × Blk} {p : Nat × Nat} {v : Nat} {out : List Int} (hl : out.length = x.l.C.length) : ∀ (d k : Nat) (B : Nat × Blk),k + d = x.l.C.length →
  runC lib ⟨h.length,h.length,5,some p⟩ (.loop b18_0) ([(1,lvP x),(4,.bptr (h.length + 4) 1 0),(5,.bptr (h.length + 1) v 0),(22,cV x),(23,.int .i64 x.l.C.length),(24,.int .i64 k)],h ++ (R :: (v,.box (stC X)) :: B :: fb x (fulK x.l X out k) :: (1,.box [fo h.length x]) :: fr)) =
   some (.exit 2,([],h ++ (R :: (v,.box (stC X)) :: fbx (x.l.C.drop k) B :: fb x (fulZ x.l X out) :: (1,.box [fo h.length x]) :: fr))) := by
 intro d
 induction d with
 | zero =>
  intro k B hk
  obtain rfl : k = x.l.C.length := by omega
  have : fulK x.l X out x.l.C.length = fulZ x.l X out := by
   unfold fulK
   rw [List.take_of_length_le (by rw [fulZ_len hl]; exact Nat.le_refl _),List.drop_of_length_le (by omega),List.append_nil]
  rw [this,List.drop_length,fbx,w_loop]
  simp (maxSteps := 30000000) (disch := omega) only [go_sem,stC,Int.lt_irrefl]
 | succ d ih =>
  intro k B hk
  have hk' : k < x.l.C.length := by omega
  have c : (k : Int) < x.l.C.length := by omega
  have fo1 : fo h.length x = .ref (h.length + 3) 1 1 0 x.l.C.length x.l.C.length := if_neg (by omega)
  have fb1 : ∀ o,fb x o = (1,.arr 1 (ints o)) := fun o => if_neg (by omega)
  simp only [fo1,fb1] at ih ⊢
  obtain ⟨v0,b0⟩ := B
  have e3 : sidx 2 (cV x) (.int .i64 k) = some k := by rw [sidx_sl (o.sc h) (by omega) (by simp; omega)]; simp
  have e4 := fun off (g : Heap) => pc_iptr (off := off) ((o.sc h).elems g) (show k < (pts x.l.C).length by simp; omega)
  simp only [pts_get,pt] at e4
  have hkl := fulK_len (X := X) hl (k := k) (by omega)
  have hlen : (ints (fulK x.l X out k)).length = x.l.C.length := by rw [ints_len,hkl]
  have f0 := fun (a b c' d' : Nat × Blk) (g : Heap) => Sl.refAt (h := h ++ (a :: b :: c' :: (1,.arr 1 (ints (fulK x.l X out k))) :: d' :: g)) (id := h.length + 3) (ver := 1) (z := 1) (es := ints (fulK x.l X out k)) (by rw [get_fr]; rfl)
  rw [hlen] at f0
  have f3 : sidx 1 (.ref (h.length + 3) 1 1 0 x.l.C.length x.l.C.length) (.int .i64 k) = some k := by rw [sidx_sl (f0 R R R R []) (by omega) (by rw [hlen]; exact c)]; simp
  have f4 := fun off a b c' d' g => pc_iptr (off := off) (f0 a b c' d' g).elems0 (show k < (ints (fulK x.l X out k)).length by rw [hlen]; exact hk')
  simp only [ints_get,fulK_get hl hk'] at f4
  have e := ih (k + 1) (v0 + 1,.box [.int .i64 x.l.C[k].1,.int .i64 x.l.C[k].2]) (by omega)
  rw [fulK_next hl hk',cast1] at e
  have st := fun (a b c' d' : Nat × Blk) (g : Heap) n => ps_iptr (cx := ⟨h.length,h.length,5,some p⟩) (h := h ++ (a :: b :: c' :: (1,.arr 1 (ints (fulK x.l X out k))) :: d' :: g)) (id := h.length + 3) (ver := 1) (o := 0) (len := x.l.C.length) (fill := x.l.C.length) (i := k) (k := .i64) (l := fulK x.l X out k) (n := n) (by rw [get_fr]; rfl) hkl (by omega) hk' (by simp)
  simp only [set_fr,List.set_cons_succ,List.set_cons_zero,Nat.zero_add] at st
  have hsame : (fulK x.l X out k).set k out[k] = fulK x.l X out k := by
   have := fulK_get (X := X) hl hk'
   conv => lhs; rw [← this]
   exact List.set_getElem_self _
  simp only [show ∀ l : List Int,l.map (AV.int .i64) = ints l from fun _ => rfl] at st
  have mka : mkAt ⟨h.length,h.length,5,some p⟩ 2 (.box [.int .i64 0,.int .i64 0]) (h ++ (R :: (v,.box (stC X)) :: (v0,b0) :: (1,.arr 1 (ints (fulK x.l X out k))) :: (1,.box [.ref (h.length + 3) 1 1 0 x.l.C.length x.l.C.length]) :: fr)) = some (v0 + 1,h ++ (R :: (v,.box (stC X)) :: (v0 + 1,.box [.int .i64 0,.int .i64 0]) :: (1,.arr 1 (ints (fulK x.l X out k))) :: (1,.box [.ref (h.length + 3) 1 1 0 x.l.C.length x.l.C.length]) :: fr)) := by
   rw [mkAt_r (by rfl)]
   simp (maxSteps := 30000000) (disch := omega) only [go_sem]
  have psa : ∀ a b : Int,pstore ⟨h.length,h.length,5,some p⟩ (h ++ (R :: (v,.box (stC X)) :: (v0 + 1,.box [.int .i64 0,.int .i64 0]) :: (1,.arr 1 (ints (fulK x.l X out k))) :: (1,.box [.ref (h.length + 3) 1 1 0 x.l.C.length x.l.C.length]) :: fr)) 2 (.bptr (h.length + 2) (v0 + 1) 0) (.agg [.int .i64 a,.int .i64 b]) = some (h ++ (R :: (v,.box (stC X)) :: (v0 + 1,.box [.int .i64 a,.int .i64 b]) :: (1,.arr 1 (ints (fulK x.l X out k))) :: (1,.box [.ref (h.length + 3) 1 1 0 x.l.C.length x.l.C.length]) :: fr)) := by
   intro a b
   rw [ps_bptr_r (by omega) (by rfl)]
   simp (maxSteps := 30000000) (disch := omega) only [go_sem]
  rw [List.drop_eq_getElem_cons hk',fbx]
  unfold fulT at e
  simp only [stC] at e mka psa ⊢
  generalize x.l.C[k] = q at *
  obtain ⟨q1,q2⟩ := q
  generalize out[k] = y at *
  rw [w_loop]
  by_cases c1 : y = x.l.L
  ·by_cases c2 : q2 ≤ X.fr
   ·by_cases c3 : X.de = x.l.D
    ·rw [if_pos ⟨c1,c2,c3⟩] at e
     simp only [c3] at e mka psa ⊢
     simp (maxSteps := 30000000) (disch := omega) only [go_sem,c,e3,e4,f3,f4,mka,psa,c1,c2,c3,st,e]
    ·rw [if_neg (fun h => c3 h.2.2),hsame] at e
     simp (maxSteps := 30000000) (disch := omega) only [go_sem,c,e3,e4,f3,f4,mka,psa,c1,c2,c3,e]
   ·rw [if_neg (fun h => c2 h.2.1),hsame] at e
    simp (maxSteps := 30000000) (disch := omega) only [go_sem,c,e3,e4,f3,f4,mka,psa,c1,c2,e]
  ·rw [if_neg (fun h => c1 h.1),hsame] at e
   simp (maxSteps := 30000000) (disch := omega) only [go_sem,c,e3,e4,f3,f4,mka,psa,c1,e]
abbrev FS := List Int × (Nat × Blk) × (Nat × Blk)
def fulEnv (h : Heap) (x : LV) : Env := [(1,lvP x),(2,.nilSl),(3,.int .i64 0),(4,.bptr (h.length + 4) 1 0),(19,.fn 89 [lvP x])]
def fulD (h : Heap) (x : LV) : Rcd := ⟨2,h.length,h.length,5,fulEnv h x⟩
def fulH (h : Heap) (x : LV) (st : FS) : Heap := h ++ [(1,.rcd (fulD h x) .ready),st.2.1,st.2.2,fb x st.1,(1,.box [fo h.length x])]
def fulS (x : LV) (st : FS) (X : Stp) : FS := (fulZ x.l X st.1,(st.2.1.1 + 1,.box (stC X)),fbx x.l.C st.2.2)
def fulI (x : LV) (s a : Int) (st : FS) : Prop := st.1.length = x.l.C.length
theorem ful_yield {x : LV} (o : okV x) (h4 : x.l.C.length ≤ 4) (h : Heap) (st : FS) (X : Stp) (fr : Heap) (hX : StpOk X) (hi : fulI x X.fr X.be st) :
  yieldv (run lib) ⟨h.length,h.length + 5,3,none⟩ (h.length + 0) 1 [stV X] (fulH h x st ++ fr) = some (.bool true,fulH h x (fulS x st X) ++ fr) := by
 obtain ⟨out,⟨v,b⟩,B⟩ := st
 simp only [fulI] at hi
 obtain ⟨D,hD⟩ : ∃ D : Rcd,D = fulD h x := ⟨_,rfl⟩
 simp only [fulH,fulS,List.append_assoc,List.cons_append,List.nil_append,← hD]
 have ha : runC lib ⟨h.length,h.length,5,some (h.length + 0,1)⟩ r2.asg ((r2.ps.zip [stV X]).foldl (fun e p => e.set p.1 p.2) (fulEnv h x),h ++ ((1,.rcd D .ready) :: (v,b) :: B :: fb x out :: (1,.box [fo h.length x]) :: fr)) =
   some (.norm,([(1,lvP x),(4,.bptr (h.length + 4) 1 0),(5,.bptr (h.length + 1) (v + 1) 0)],h ++ ((1,.rcd D .ready) :: (v + 1,.box (stC X)) :: B :: fb x out :: (1,.box [fo h.length x]) :: fr))) := by
  have em : mkAt ⟨h.length,h.length,5,some (h.length + 0,1)⟩ 1 (.box [.int .i64 0,.int .i64 0,.int .i64 0,.int .i64 0,.int .i64 0,.bool false,.bool false]) (h ++ ((1,.rcd D .ready) :: (v,b) :: B :: fb x out :: (1,.box [fo h.length x]) :: fr)) = some (v + 1,h ++ ((1,.rcd D .ready) :: (v + 1,.box [.int .i64 0,.int .i64 0,.int .i64 0,.int .i64 0,.int .i64 0,.bool false,.bool false]) :: B :: fb x out :: (1,.box [fo h.length x]) :: fr)) := by
   rw [mkAt_r (by rfl)]
   simp (maxSteps := 30000000) (disch := omega) only [go_sem]
  have es : pstore ⟨h.length,h.length,5,some (h.length + 0,1)⟩ (h ++ ((1,.rcd D .ready) :: (v + 1,.box [.int .i64 0,.int .i64 0,.int .i64 0,.int .i64 0,.int .i64 0,.bool false,.bool false]) :: B :: fb x out :: (1,.box [fo h.length x]) :: fr)) 7 (.bptr (h.length + 1) (v + 1) 0) (stV X) = some (h ++ ((1,.rcd D .ready) :: (v + 1,.box (stC X)) :: B :: fb x out :: (1,.box [fo h.length x]) :: fr)) := by
   rw [ps_bptr_r (by omega) (by rfl)]
   simp (maxSteps := 30000000) (disch := omega) only [go_sem,stV,stC]
  simp (maxSteps := 30000000) (disch := omega) only [go_sem,r2,fulEnv,em,es,List.zip_cons_cons,List.zip_nil_right,List.foldl_cons,List.foldl_nil]
 have hb : ∃ env2,runC lib ⟨h.length,h.length,5,some (h.length + 0,1)⟩ r2.body ([(1,lvP x),(4,.bptr (h.length + 4) 1 0),(5,.bptr (h.length + 1) (v + 1) 0)],(h ++ ((1,.rcd D .ready) :: (v + 1,.box (stC X)) :: B :: fb x out :: (1,.box [fo h.length x]) :: fr)).set (h.length + 0) (1,.rcd D .busy)) =
   some (.norm,(env2,h ++ ((1,.rcd D .busy) :: (v + 1,.box (stC X)) :: fbx x.l.C B :: fb x (fulZ x.l X out) :: (1,.box [fo h.length x]) :: fr))) := by
  refine ⟨[], ?_⟩
  rw [set_fr]
  have e := ful_in o h4 (X := X) (h := h) (fr := fr) (R := (1,.rcd D .busy)) (p := (h.length + 0,1)) (v := v + 1) (out := out) hi x.l.C.length 0 B (by omega)
  have e0 : fulK x.l X out 0 = out := by simp [fulK]
  have ll := lenv_sl (o.sc h).len
  rw [pts_len] at ll
  simp only [e0,List.drop_zero,Int.natCast_zero] at e
  simp only [stC] at e ⊢
  simp (maxSteps := 30000000) (disch := omega) only [go_sem,r2,ll,e]
 obtain ⟨env2,hb⟩ := hb
 have hg : (h ++ ((1,Blk.rcd D .ready) :: (v,b) :: B :: fb x out :: (1,.box [fo h.length x]) :: fr))[h.length + 0]? = some (1,.rcd ⟨2,h.length,h.length,5,fulEnv h x⟩ .ready) := by rw [get_fr,hD]; rfl
 have := yield_round (L := lib) (cx := ⟨h.length,h.length + 5,3,none⟩) hg (Nat.le_refl _) (by omega) (Nat.le_refl _) (by simp [stV,AV.closedL,AV.closed]) (x := r2) rfl rfl ha (by rw [get_fr]; rfl) hb (by rw [get_fr]; rfl)
 rw [this,set_fr]
 rfl
def fulL (l : Liv) (xs : List Stp) : List Int := l.C.map fun c => fulX l c.2 xs
theorem fulS_fst {x : LV} (xs : List Stp) : ∀ st : FS,st.1.length = x.l.C.length → (xs.foldl (fulS x) st).1 = List.zipWith (fun (c : Pr) o => xs.foldl (fulT x.l c.2) o) x.l.C st.1 := by
 induction xs with
 | nil =>
  intro st hl
  simp only [List.foldl_nil]
  apply List.ext_getElem
  ·simp [hl]
  ·intro i h1 h2; simp
 | cons X xs ih =>
  intro st hl
  rw [List.foldl_cons,ih _ (by simp [fulS,fulZ,hl])]
  apply List.ext_getElem
  ·simp [fulS,fulZ]
  ·intro i h1 h2; simp [fulS,fulZ]
theorem ful_all {l : Liv} (ok : okLiv l) {xs : List Stp} {e : Int} (h : Ch l 0 l.D xs e) : List.zipWith (fun (c : Pr) o => xs.foldl (fulT l c.2) o) l.C (List.replicate l.C.length l.L) = fulL l xs := by
 have hf := h.fr ok.E.1
 apply List.ext_getElem
 ·simp [fulL]
 ·intro i h1 h2
  simp only [List.getElem_zipWith,List.getElem_replicate,fulL,List.getElem_map]
  exact ful_fold xs fun x hx => by have := hf x hx; omega
def mkO (es : List AV) : AV := if es = [] then .lsf 1 [] else .own 1 es
theorem dfull_run {x : LV} (o : okV x) (ok : okLiv x.l) {xs : List Stp} {e : Int} (hc : Ch x.l 0 x.l.D xs e) (h : Heap) (lo : Nat) :
  (run lib).fn 18 [lvV x] h lo = some (.tuple [mkO (ints (fulL x.l xs)),.int .i64 0],h) := by
 have ev := fun H lo => dvalid_run o H lo
 rw [valB_ok.mpr ok] at ev
 have h4 := ok.c4
 have er := fun H lo => rep_run x.l.L x.l.C.length (by omega) H lo
 have dc := fun H lo => dcourse_run x H lo
 have ll := lenv_sl (o.sc h).len
 rw [pts_len] at ll
 have hlen : ∀ st,(fulH h x st).length = h.length + 5 := fun st => by simp [fulH]
 have g2 := course_run (id := h.length + 0) (iv := 1) (H := fulH h x) (nb := h.length + 5) (lo := h.length) (step := fulS x) (Iv := fulI x) o ok hlen (by omega) (fun st X hX hi => by simp only [fulI,fulS] at *; rw [fulZ_len hi]) (fun st X fr hX hi => ful_yield o h4 h st X fr hX hi) hc (List.replicate x.l.C.length x.l.L,(0,.dead),(0,.dead)) (by simp [fulI])
 obtain ⟨_,g2⟩ := g2
 obtain ⟨st,hst⟩ : ∃ st,st = xs.foldl (fulS x) (List.replicate x.l.C.length x.l.L,(0,.dead),(0,.dead)) := ⟨_,rfl⟩
 have hs1 : st.1 = fulL x.l xs := by rw [hst,fulS_fst _ _ (by simp)]; exact ful_all ok hc
 rw [← hst] at g2
 obtain ⟨out,va,vb⟩ := st
 simp only at hs1
 subst hs1
 have g3 := w_rfn (L := lib) (lo := h.length) (ns := 5) (s := 0) (g := 2) (it := 89) (v := 0) (caps := [lvP x]) (env := fulEnv h x) (h := h) (b := .dead)
  (fr := [(0,.dead),(0,.dead),(0,.dead),fb x (List.replicate x.l.C.length x.l.L),(1,.box [fo h.length x])])
  (fr' := [(1,.rcd (fulD h x) .ready),va,vb,fb x (fulL x.l xs),(1,.box [fo h.length x])])
  (f := .t 19) rfl (by omega) rfl g2 rfl
 simp only [fulEnv,List.set_cons_zero] at g3
 have hfl : (fulL x.l xs).length = x.l.C.length := by simp [fulL]
 unfold lvV at ev dc ⊢
 rw [run_closed (x := x18) rfl rfl rfl rfl]
 by_cases h0 : x.l.C.length = 0
 ·have hfe : fulL x.l xs = [] := List.eq_nil_of_length_eq_zero (by omega)
  have hm : mkO (ints (fulL x.l xs)) = .lsf 1 [] := by rw [hfe]; rfl
  have fo1 : fo h.length x = .lsf 1 [] := if_pos h0
  have fb1 : ∀ o,fb x o = (0,.dead) := fun o => if_pos h0
  rw [hm]
  simp only [fo1,fb1] at g3
  simp only [h0,if_true,Int.natCast_zero] at er ll
  have tk : ∀ H : Heap,bck ⟨h.length,h.length,5,none⟩ [(0,3)] (some (.lsf 1 [],H)) = some (.lsf 1 [],H) := fun H => by simp [bck,takeOver,weak,weak1]
  have lc : (AV.lsf 1 []).cells = [.lsf 1 []] := rfl
  have lv : (AV.lsf 1 []).val = true := rfl
  have gv : ∀ H : Heap,give h.length (.lsf 1 []) H = some (.lsf 1 [],H) := fun H => by simp [give,frz]
  simp (maxSteps := 30000000) (disch := omega) only [go_sem,x18,ev,er,dc,ll,tk,g3,gv,lc,lv]
 ·have hm : mkO (ints (fulL x.l xs)) = .own 1 (ints (fulL x.l xs)) := if_neg fun h => h0 (by rw [← hfl,← ints_len,h]; rfl)
  rw [hm]
  have fo1 : fo h.length x = .ref (h.length + 3) (0 + 1) 1 0 x.l.C.length x.l.C.length := if_neg h0
  have fb1 : ∀ o,fb x o = (0 + 1,.arr 1 (ints o)) := fun o => if_neg h0
  simp only [fo1,fb1] at g3
  simp only [h0,if_false] at er
  have hne2 : ints (List.replicate x.l.C.length x.l.L) ≠ [] := by simp [ints]; exact fun h => h0 (by rw [h]; rfl)
  have tk := take_own (lo := h.length) (ns := 5) (s := 3) (z := 1) (h := h) (fr := [(0,.dead),(0,.dead),(0,.dead),(0,.dead),(0,.dead)]) (b0 := (0,.dead)) (es := ints (List.replicate x.l.C.length x.l.L)) (by omega) rfl hne2
  rw [show ownV 1 (ints (List.replicate x.l.C.length x.l.L)) = .own 1 (ints (List.replicate x.l.C.length x.l.L)) from if_neg hne2,ints_len,List.length_replicate] at tk
  have gv := give_fr (h := h) (s := 3) (ver := 0 + 1) (z := 1) (fr := [(1 + 0,.dead),va,vb,(0 + 1,.arr 1 (ints (fulL x.l xs))),(1,.box [.ref (h.length + 3) (0 + 1) 1 0 x.l.C.length x.l.C.length])]) (es := ints (fulL x.l xs)) rfl
  rw [ints_len,hfl] at gv
  simp (maxSteps := 30000000) (disch := omega) only [go_sem,x18,ev,er,dc,ll,tk,g3,gv]
end Go.VI.Dump
namespace Go.VI.Dump
open Go.VI.Num
/- BIGSTEPS -/
def runA (out : List Pr) (f : Int) : List Pr → List Pr
 | [] => out
 | c :: cs => runA (if f < c.1 then out ++ [(f,c.1)] else out) c.2 cs
def runB (f : Int) : List Pr → Int
 | [] => f
 | c :: cs => runB c.2 cs
theorem runA_eq {L : Int} : ∀ (cs : List Pr) (out : List Pr) (f : Int),(runA out f cs) ++ (if runB f cs < L then [(runB f cs,L)] else []) = out ++ runsF L f cs
 | [],out,f => rfl
 | c :: cs,out,f => by
  rw [runA,runB,runA_eq cs,runsF]
  split <;> simp
theorem pts_app1 (a : List Pr) (x : Pr) : pts (a ++ [x]) = pts a ++ [.agg [.int .i64 x.1,.int .i64 x.2]] := by simp [pts,pt]
theorem runs_loop {x : LV} (o : okV x) (h4 : x.l.C.length ≤ 4) (h : Heap) : ∀ (d k : Nat) (out : List Pr) (f : Int) (B0 B2 : Nat × Blk),k + d = x.l.C.length → out.length ≤ k →
  ∃ B2',runC lib ⟨h.length,h.length,3,none⟩ (.loop b20_0) ([(1,lvP x),(4,accV (h.length + 1) (0,.dead) 2 (pts out)),(5,.int .i64 f),(12,cV x),(13,.int .i64 x.l.C.length),(14,.int .i64 k)],h ++ [B0,accB (0,.dead) 2 (pts out),B2]) =
   some (.exit 0,([(1,lvP x),(4,accV (h.length + 1) (0,.dead) 2 (pts (runA out f (x.l.C.drop k)))),(5,.int .i64 (runB f (x.l.C.drop k)))],h ++ [B0,accB (0,.dead) 2 (pts (runA out f (x.l.C.drop k))),B2'])) ∧ (runA out f (x.l.C.drop k)).length ≤ x.l.C.length := by
 intro d
 induction d with
 | zero =>
  intro k out f B0 B2 hk hl
  obtain rfl : k = x.l.C.length := by omega
  refine ⟨B2, ?_,by rw [List.drop_length]; exact hl⟩
  rw [List.drop_length,runA,runB,w_loop]
  simp (maxSteps := 30000000) (disch := omega) only [go_sem,Int.lt_irrefl]
 | succ d ih =>
  intro k out f B0 B2 hk hl
  have hk' : k < x.l.C.length := by omega
  have c : (k : Int) < x.l.C.length := by omega
  obtain ⟨v0,b0⟩ := B2
  have e3 : sidx 2 (cV x) (.int .i64 k) = some k := by rw [sidx_sl (o.sc h) (by omega) (by simp; omega)]; simp
  have e4 := fun off (g : Heap) => pc_iptr (off := off) ((o.sc h).elems g) (show k < (pts x.l.C).length by simp; omega)
  simp only [pts_get,pt] at e4
  rw [List.drop_eq_getElem_cons hk',runA,runB]
  generalize x.l.C[k] = q at *
  obtain ⟨q1,q2⟩ := q
  simp only at e4 ⊢
  by_cases c1 : f < q1
  ·obtain ⟨B2',e,hl2⟩ := ih (k + 1) (out ++ [(f,q1)]) q2 B0 (v0 + 1,.box [.int .i64 q1,.int .i64 q2]) (by omega) (by simp; omega)
   rw [pts_app1,cast1] at e
   rw [if_pos c1]
   refine ⟨B2', ?_,hl2⟩
   have e5 := fun b => app_acc (lo := h.length) (ns := 3) (s := 1) (z := 2) (lim := 8796093022208) (h := h) (fr := [B0,accB (0,.dead) 2 (pts out),b]) (b0 := (0,.dead)) (es := pts out) (xs := [.agg [.int .i64 f,.int .i64 q1]]) (by omega) (by omega) rfl (by simp; omega)
   rw [w_loop]
   simp (maxSteps := 30000000) (disch := omega) only [go_sem,c,e3,e4,c1,e5,e]
  ·obtain ⟨B2',e,hl2⟩ := ih (k + 1) out q2 B0 (v0 + 1,.box [.int .i64 q1,.int .i64 q2]) (by omega) (by omega)
   rw [cast1] at e
   rw [if_neg c1]
   refine ⟨B2', ?_,hl2⟩
   rw [w_loop]
   simp (maxSteps := 30000000) (disch := omega) only [go_sem,c,e3,e4,c1,e]
theorem druns_run {x : LV} (o : okV x) (ok : okLiv x.l) (h : Heap) (lo : Nat) : (run lib).fn 20 [lvV x] h lo = some (.tuple [ownV 2 (pts (runsL x.l)),.int .i64 0],h) := by
 have ev := fun H lo => dvalid_run o H lo
 rw [valB_ok.mpr ok] at ev
 have h4 := ok.c4
 have ll := lenv_sl (o.sc h).len
 rw [pts_len] at ll
 obtain ⟨B2',e,hl⟩ := runs_loop o h4 h x.l.C.length 0 [] 0 (0,.dead) (0,.dead) (by omega) (by simp)
 simp only [List.drop_zero,Int.natCast_zero,show pts [] = [] from rfl,accV_nil,accB_nil] at e hl
 have eq := runA_eq (L := x.l.L) x.l.C [] 0
 rw [List.nil_append] at eq
 unfold runsL
 rw [← eq]
 generalize runA [] 0 x.l.C = A at *
 generalize runB 0 x.l.C = F at *
 unfold lvV at ev ⊢
 rw [run_closed (x := x20) rfl rfl rfl rfl]
 by_cases c : F < x.l.L
 ·rw [if_pos c,pts_app1]
  by_cases h0 : pts A = []
  ·have ap : appv ⟨h.length,h.length,3,none⟩ 0 2 8796093022208 .nilSl [.agg [.int .i64 F,.int .i64 x.l.L]] (h ++ [(0,.dead),(0,.dead),B2']) = some (accV (h.length + 0) (0,.dead) 2 [.agg [.int .i64 F,.int .i64 x.l.L]],h ++ [accB (0,.dead) 2 [.agg [.int .i64 F,.int .i64 x.l.L]],(0,.dead),B2']) := by
    have := app_acc (lo := h.length) (ns := 3) (s := 0) (z := 2) (lim := 8796093022208) (h := h) (fr := [(0,.dead),(0,.dead),B2']) (b0 := (0,.dead)) (es := []) (xs := [.agg [.int .i64 F,.int .i64 x.l.L]]) (by omega) (by omega) rfl (by simp)
    rw [accV_nil] at this
    rw [this]; rfl
   have g4 := give_acc (s := 0) (z := 2) (h := h) (b0 := (0,.dead)) (es := [.agg [.int .i64 F,.int .i64 x.l.L]]) (fr := [accB (0,.dead) 2 [.agg [.int .i64 F,.int .i64 x.l.L]],(0,.dead),B2']) rfl
   rw [h0,accV_nil,accB_nil] at e
   rw [h0,List.nil_append]
   simp (maxSteps := 30000000) (disch := omega) only [go_sem,x20,ev,ll,e,c,ap,g4]
  ·have ap : appv ⟨h.length,h.length,3,none⟩ 0 2 8796093022208 (accV (h.length + 1) (0,.dead) 2 (pts A)) [.agg [.int .i64 F,.int .i64 x.l.L]] (h ++ [(0,.dead),accB (0,.dead) 2 (pts A),B2']) = some (accV (h.length + 1) (0,.dead) 2 (pts A ++ [.agg [.int .i64 F,.int .i64 x.l.L]]),h ++ [(0,.dead),accB (0,.dead) 2 (pts A ++ [.agg [.int .i64 F,.int .i64 x.l.L]]),B2']) := by
    rw [accV_ne h0,accB_ne h0,accV_ne (by simp),accB_ne (by simp),app_ref (by rw [get_fr]; rfl) (by simp) (by simp; omega),set_fr,List.length_append]
    rfl
   have g4 := give_acc (s := 1) (z := 2) (h := h) (b0 := (0,.dead)) (es := pts A ++ [.agg [.int .i64 F,.int .i64 x.l.L]]) (fr := [(0,.dead),accB (0,.dead) 2 (pts A ++ [.agg [.int .i64 F,.int .i64 x.l.L]]),B2']) rfl
   simp (maxSteps := 30000000) (disch := omega) only [go_sem,x20,ev,ll,e,c,ap,g4]
 ·rw [if_neg c,List.append_nil]
  have g4 := give_acc (s := 1) (z := 2) (h := h) (b0 := (0,.dead)) (es := pts A) (fr := [(0,.dead),accB (0,.dead) 2 (pts A),B2']) rfl
  simp (maxSteps := 30000000) (disch := omega) only [go_sem,x20,ev,ll,e,c,g4]
end Go.VI.Dump
