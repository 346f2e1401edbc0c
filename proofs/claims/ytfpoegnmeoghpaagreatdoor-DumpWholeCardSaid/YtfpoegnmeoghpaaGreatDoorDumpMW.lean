/- What the functions on integers compute, part MW. -/
import Derived.Test.YtfpoegnmeoghpaaGreatDoorDumpMU
import Derived.Test.YtfpoegnmeoghpaaGreatDoorDumpMV
set_option linter.unusedVariables false
set_option linter.unusedSimpArgs false
namespace Go.VI.Dump
open Go.VI.Num
/- BIGSTEPS -/
theorem epick_run {c n : Int} (hn : 0 < n) (hc : I64 c) (h : Heap) (lo : Nat) : (run lib).fn 64 [.int .i64 c,.int .i64 n] h lo = some (.int .i64 (pkI c n),h) := by
 obtain ⟨h1,h2⟩ := hc
 unfold pkI
 rw [run_closed (x := x64) rfl rfl rfl rfl]
 by_cases c0 : c < 0
 ·rw [if_pos c0]
  simp (maxSteps := 30000000) (disch := omega) only [go_sem,x64,c0]
 ·rw [if_neg c0]
  simp (maxSteps := 30000000) (disch := omega) only [go_sem,x64,c0]
abbrev Tr := Int × Int × Int
def tri (x : Tr) : AV := .agg [.int .i64 x.1,.int .i64 x.2.1,.int .i64 x.2.2]
def tris (l : List Tr) : List AV := l.map tri
@[simp] theorem tris_len (l : List Tr) : (tris l).length = l.length := by simp [tris]
theorem tris_get (l : List Tr) (k : Nat) (h : k < (tris l).length) : (tris l)[k] = tri (l[k]'(by simpa using h)) := by simp [tris]
def trF (at_ : Int) (x : Tr) : Int := at_ + pkI x.1 25
def trT (at_ : Int) (x : Tr) : Int := trF at_ x + 1 + pkI x.2.1 9
def madeF (L : Int) : Int → List Pr → List Pr → List Tr → List Pr × List Pr
 | _,P,C,[] => (P,C)
 | a,P,C,x :: r =>
  if L < trT a x then (P,C)
  else if pkI x.2.2 3 = 0 ∧ P.length < 4 then madeF L (trT a x + 1) (P ++ [(trF a x,trT a x)]) C r
  else if C.length < 4 then madeF L (trT a x + 1) P (C ++ [(trF a x,trT a x)]) r
  else madeF L (trT a x + 1) P C r
theorem pt_app1 (l : List Pr) (a b : Int) : pts (l ++ [(a,b)]) = pts l ++ [.agg [.int .i64 a,.int .i64 b]] := by simp [pts,pt]
theorem made_loop {h : Heap} {v : AV} {xs : List Tr} (hv : Sl h 3 v (tris xs)) (hl : xs.length ≤ 9223372036854775807) (hi : ∀ x ∈ xs,I64 x.1 ∧ I64 x.2.1 ∧ I64 x.2.2) {L : Int} (hL : 1 ≤ L ∧ L ≤ 120) (D E : Int) (R : Nat × Blk) : ∀ (d k : Nat) (a : Int) (P C : List Pr) (B : Nat × Blk),
  k + d = min xs.length 6 → 0 ≤ a → a ≤ L + 1 → P.length ≤ 4 → C.length ≤ 4 →
  ∃ B',runC lib ⟨h.length,h.length,5,none⟩ (.loop b32_0) ([(3,v),(8,.bptr (h.length + 4) 1 0),(9,.bptr (h.length + 3) 1 0),(10,.int .i64 a),(11,.int .i64 k)],h ++ [accB (0,.dead) 2 (pts P),accB (0,.dead) 2 (pts C),B,(1,.box [.int .i64 L,.int .i64 D,.int .i64 E,accV (h.length + 0) (0,.dead) 2 (pts P),accV (h.length + 1) (0,.dead) 2 (pts C)]),R]) =
   some (.exit 0,([(8,.bptr (h.length + 4) 1 0),(9,.bptr (h.length + 3) 1 0)],h ++ [accB (0,.dead) 2 (pts (madeF L a P C ((xs.take 6).drop k)).1),accB (0,.dead) 2 (pts (madeF L a P C ((xs.take 6).drop k)).2),B',(1,.box [.int .i64 L,.int .i64 D,.int .i64 E,accV (h.length + 0) (0,.dead) 2 (pts (madeF L a P C ((xs.take 6).drop k)).1),accV (h.length + 1) (0,.dead) 2 (pts (madeF L a P C ((xs.take 6).drop k)).2)]),R])) := by
 have ll := lenv_sl hv.len
 rw [tris_len] at ll
 have ll' := fun fr => lenv_sl (hv.app fr).len
 intro d
 induction d with
 | zero =>
  intro k a P C B hk _ _ _ _
  refine ⟨B, ?_⟩
  rw [List.drop_eq_nil_of_le (by rw [List.length_take]; omega),madeF,w_loop]
  by_cases c : (k : Int) < xs.length
  ·have c6 : ¬ (k : Int) < 6 := by omega
   simp (maxSteps := 30000000) (disch := omega) only [go_sem,ll,c,c6]
  ·simp (maxSteps := 30000000) (disch := omega) only [go_sem,ll,c]
 | succ d ih =>
  intro k a P C B hk ha1 ha2 hP hC
  have hk' : k < xs.length := by omega
  have h1 : (k : Int) < xs.length := by omega
  have h6 : (k : Int) < 6 := by omega
  have e3 : sidx 3 v (.int .i64 k) = some k := by rw [sidx_sl hv (by omega) (by simp; omega)]; simp
  have e4 := fun off fr => pc_iptr (off := off) (hv.elems fr) (show k < (tris xs).length by simp; omega)
  simp only [tris_get,tri] at e4
  obtain ⟨i1,i2,i3⟩ := hi xs[k] (List.getElem_mem _)
  have hd : (xs.take 6).drop k = xs[k] :: (xs.take 6).drop (k + 1) := by
   rw [List.drop_eq_getElem_cons (by rw [List.length_take]; omega),List.getElem_take]
  rw [hd]
  generalize xs[k] = x at *
  obtain ⟨x1,x2,x3⟩ := x
  simp only at e4 i1 i2 i3
  have p1 := fun H lo => epick_run (n := 25) (by decide) i1 H lo
  have p2 := fun H lo => epick_run (n := 9) (by decide) i2 H lo
  have p3 := fun H lo => epick_run (n := 3) (by decide) i3 H lo
  have r1 := pkI_range x1 (n := 25) (by decide)
  have r2 := pkI_range x2 (n := 9) (by decide)
  obtain ⟨v0,b0⟩ := B
  have hf : trF a (x1,x2,x3) = a + pkI x1 25 := rfl
  have ht : trT a (x1,x2,x3) = a + pkI x1 25 + 1 + pkI x2 9 := rfl
  simp only [madeF,hf,ht]
  generalize pkI x1 25 = u at *
  generalize pkI x2 9 = w at *
  generalize pkI x3 3 = t at *
  by_cases c1 : L < a + u + 1 + w
  ·refine ⟨(v0 + 1,.box [.int .i64 (a + u),.int .i64 (a + u + 1 + w)]), ?_⟩
   simp only [if_pos c1]
   rw [w_loop]
   simp (maxSteps := 30000000) (disch := omega) only [go_sem,ll,h1,h6,e3,e4,p1,p2,c1]
  ·simp only [if_neg c1]
   by_cases c2 : t = 0 ∧ P.length < 4
   ·simp only [if_pos c2]
    obtain ⟨c2,c3⟩ := c2
    subst c2
    have lP := lenv_sl (Sl.acc (h := h) (fr := [accB (0,.dead) 2 (pts P),accB (0,.dead) 2 (pts C),(v0 + 1,.box [.int .i64 (a + u),.int .i64 (a + u + 1 + w)]),(1,.box [.int .i64 L,.int .i64 D,.int .i64 E,accV (h.length + 0) (0,.dead) 2 (pts P),accV (h.length + 1) (0,.dead) 2 (pts C)]),R]) (s := 0) (z := 2) (b0 := (0,.dead)) (es := pts P) rfl).len
    rw [pts_len] at lP
    have c3' : (P.length : Int) < 4 := by omega
    obtain ⟨B',e⟩ := ih (k + 1) (a + u + 1 + w + 1) (P ++ [(a + u,a + u + 1 + w)]) C (v0 + 1,.box [.int .i64 (a + u),.int .i64 (a + u + 1 + w)]) (by omega) (by omega) (by omega) (by simp; omega) hC
    rw [cast1,pt_app1] at e
    refine ⟨B', ?_⟩
    have ap := app_acc (lo := h.length) (ns := 5) (s := 0) (z := 2) (lim := 8796093022208) (h := h) (fr := [accB (0,.dead) 2 (pts P),accB (0,.dead) 2 (pts C),(v0 + 1,.box [.int .i64 (a + u),.int .i64 (a + u + 1 + w)]),(1,.box [.int .i64 L,.int .i64 D,.int .i64 E,accV (h.length + 0) (0,.dead) 2 (pts P),accV (h.length + 1) (0,.dead) 2 (pts C)]),R]) (b0 := (0,.dead)) (es := pts P) (xs := [.agg [.int .i64 (a + u),.int .i64 (a + u + 1 + w)]]) (by omega) (by omega) rfl (by simp; omega)
    rw [w_loop]
    simp (maxSteps := 30000000) (disch := omega) only [go_sem,ll,h1,h6,e3,e4,p1,p2,p3,c1,lP,c3',ap,accV_cells,accV_val,e]
   ·simp only [if_neg c2]
    have lP := lenv_sl (Sl.acc (h := h) (fr := [accB (0,.dead) 2 (pts P),accB (0,.dead) 2 (pts C),(v0 + 1,.box [.int .i64 (a + u),.int .i64 (a + u + 1 + w)]),(1,.box [.int .i64 L,.int .i64 D,.int .i64 E,accV (h.length + 0) (0,.dead) 2 (pts P),accV (h.length + 1) (0,.dead) 2 (pts C)]),R]) (s := 0) (z := 2) (b0 := (0,.dead)) (es := pts P) rfl).len
    have lC := lenv_sl (Sl.acc (h := h) (fr := [accB (0,.dead) 2 (pts P),accB (0,.dead) 2 (pts C),(v0 + 1,.box [.int .i64 (a + u),.int .i64 (a + u + 1 + w)]),(1,.box [.int .i64 L,.int .i64 D,.int .i64 E,accV (h.length + 0) (0,.dead) 2 (pts P),accV (h.length + 1) (0,.dead) 2 (pts C)]),R]) (s := 1) (z := 2) (b0 := (0,.dead)) (es := pts C) rfl).len
    rw [pts_len] at lP lC
    by_cases c4 : C.length < 4
    ·have c4' : (C.length : Int) < 4 := by omega
     simp only [if_pos c4]
     obtain ⟨B',e⟩ := ih (k + 1) (a + u + 1 + w + 1) P (C ++ [(a + u,a + u + 1 + w)]) (v0 + 1,.box [.int .i64 (a + u),.int .i64 (a + u + 1 + w)]) (by omega) (by omega) (by omega) hP (by simp; omega)
     rw [cast1,pt_app1] at e
     refine ⟨B', ?_⟩
     have ap := app_acc (lo := h.length) (ns := 5) (s := 1) (z := 2) (lim := 8796093022208) (h := h) (fr := [accB (0,.dead) 2 (pts P),accB (0,.dead) 2 (pts C),(v0 + 1,.box [.int .i64 (a + u),.int .i64 (a + u + 1 + w)]),(1,.box [.int .i64 L,.int .i64 D,.int .i64 E,accV (h.length + 0) (0,.dead) 2 (pts P),accV (h.length + 1) (0,.dead) 2 (pts C)]),R]) (b0 := (0,.dead)) (es := pts C) (xs := [.agg [.int .i64 (a + u),.int .i64 (a + u + 1 + w)]]) (by omega) (by omega) rfl (by simp; omega)
     rw [w_loop]
     by_cases c5 : t = 0
     ·have c3' : ¬ (P.length : Int) < 4 := by omega
      subst c5
      simp (maxSteps := 30000000) (disch := omega) only [go_sem,ll,h1,h6,e3,e4,p1,p2,p3,c1,lP,c3',lC,c4',ap,accV_cells,accV_val,e]
     ·simp (maxSteps := 30000000) (disch := omega) only [go_sem,ll,h1,h6,e3,e4,p1,p2,p3,c1,c5,lC,c4',ap,accV_cells,accV_val,e]
    ·have c4' : ¬ (C.length : Int) < 4 := by omega
     simp only [if_neg c4]
     obtain ⟨B',e⟩ := ih (k + 1) (a + u + 1 + w + 1) P C (v0 + 1,.box [.int .i64 (a + u),.int .i64 (a + u + 1 + w)]) (by omega) (by omega) (by omega) hP hC
     rw [cast1] at e
     refine ⟨B', ?_⟩
     rw [w_loop]
     by_cases c5 : t = 0
     ·have c3' : ¬ (P.length : Int) < 4 := by omega
      subst c5
      simp (maxSteps := 30000000) (disch := omega) only [go_sem,ll,h1,h6,e3,e4,p1,p2,p3,c1,lP,c3',lC,c4',e]
     ·simp (maxSteps := 30000000) (disch := omega) only [go_sem,ll,h1,h6,e3,e4,p1,p2,p3,c1,c5,lC,c4',e]
def madeLiv (a b c : Int) (d : List Tr) : Liv := ⟨1 + pkI a 120,pkI b 13,1 + pkI c 8,(madeF (1 + pkI a 120) 0 [] [] (d.take 6)).1,(madeF (1 + pkI a 120) 0 [] [] (d.take 6)).2⟩
def livV (l : Liv) : AV := .agg [.int .i64 l.L,.int .i64 l.D,.int .i64 l.E,lstV 2 (pts l.P),lstV 2 (pts l.C)]
theorem made_run {a b c : Int} (ha : I64 a) (hb : I64 b) (hc : I64 c) {h : Heap} {v : AV} {d : List Tr} (hv : Sl h 3 v (tris d)) (hl : d.length ≤ 9223372036854775807) (hi : ∀ x ∈ d,I64 x.1 ∧ I64 x.2.1 ∧ I64 x.2.2) (lo : Nat) :
  (run lib).fn 32 [.int .i64 a,.int .i64 b,.int .i64 c,v] h lo = some (livV (madeLiv a b c d),h) := by
 have p1 := fun H lo => epick_run (n := 120) (by decide) ha H lo
 have p2 := fun H lo => epick_run (n := 13) (by decide) hb H lo
 have p3 := fun H lo => epick_run (n := 8) (by decide) hc H lo
 have r1 := pkI_range a (n := 120) (by decide)
 have r3 := pkI_range c (n := 8) (by decide)
 obtain ⟨B',e⟩ := made_loop hv hl hi (L := 1 + pkI a 120) (by omega) (pkI b 13) (1 + pkI c 8) (1,.box [.int .i64 0,.int .i64 0,.int .i64 0,.nilSl,.nilSl]) (min d.length 6) 0 0 [] [] (0,.dead) (by omega) (by omega) (by omega) (by simp) (by simp)
 unfold livV madeLiv
 simp only [Int.natCast_zero,List.drop_zero,show pts [] = [] from rfl,accV_nil,accB_nil] at e
 generalize pkI a 120 = u at *
 generalize pkI b 13 = w at *
 generalize pkI c 8 = t at *
 generalize madeF (1 + u) 0 [] [] (d.take 6) = PC at *
 obtain ⟨P,C⟩ := PC
 simp only at e ⊢
 have fP := fun kk m => frz_acc (h := h) (s := 0) (z := 2) (k := kk) (b0 := (0,.dead)) (es := pts P) (fr := [accB (0,.dead) 2 (pts P),accB (0,.dead) 2 (pts C),B',(1,.box [.int .i64 (1 + u),.int .i64 w,.int .i64 (1 + t),accV (h.length + 0) (0,.dead) 2 (pts P),accV (h.length + 1) (0,.dead) 2 (pts C)]),m]) rfl
 have fC := fun kk x m => frz_acc (h := h) (s := 1) (z := 2) (k := kk) (b0 := (0,.dead)) (es := pts C) (fr := [x,accB (0,.dead) 2 (pts C),B',(1,.box [.int .i64 (1 + u),.int .i64 w,.int .i64 (1 + t),accV (h.length + 0) (0,.dead) 2 (pts P),accV (h.length + 1) (0,.dead) 2 (pts C)]),m]) rfl
 simp only [List.set_cons_zero,List.set_cons_succ] at fP fC
 rw [run_closed (x := x32) rfl rfl rfl rfl]
 simp (maxSteps := 30000000) (disch := omega) only [go_sem,x32,p1,p2,p3,e,accV_cells,accV_val,fP,fC]
end Go.VI.Dump
namespace Go.VI.Dump
open Go.VI.Num
theorem ordB_app {L : Int} {x : Pr} (h1 : x.1 < x.2) (h2 : x.2 ≤ L) : ∀ {l : List Pr} {a : Int},ordB L a l = true → (∀ y ∈ l,y.2 < x.1) → a < x.1 → ordB L a (l ++ [x]) = true
 | [],a,_,_,h => by simp [ordB,h1,h2,h]
 | y :: l,a,ho,hm,h => by
  simp only [ordB,List.cons_append,Bool.and_eq_true,decide_eq_true_eq] at ho ⊢
  exact ⟨ho.1,ho.2.1,ho.2.2.1,ordB_app h1 h2 ho.2.2.2 (fun z hz => hm z (by simp [hz])) (hm y (by simp))⟩
structure Mk (L a : Int) (P C : List Pr) : Prop where
 oP : ordB L (-1) P = true
 oC : ordB L (-1) C = true
 p4 : P.length ≤ 4
 c4 : C.length ≤ 4
 pe : ∀ p ∈ P,p.2 < a
 ce : ∀ p ∈ C,p.2 < a
 dis : ∀ p ∈ P,meetB C p.1 p.2 = false
theorem madeF_ok {L : Int} : ∀ (d : List Tr) {a : Int} {P C : List Pr},0 ≤ a → Mk L a P C → ∃ a',Mk L a' (madeF L a P C d).1 (madeF L a P C d).2
 | [],a,P,C,_,m => ⟨a,m⟩
 | x :: r,a,P,C,h0,m => by
  have r1 := pkI_range x.1 (n := 25) (by decide)
  have r2 := pkI_range x.2.1 (n := 9) (by decide)
  have hf : trF a x = a + pkI x.1 25 := rfl
  have ht : trT a x = a + pkI x.1 25 + 1 + pkI x.2.1 9 := rfl
  have hF : a ≤ trF a x := by omega
  have hT : trF a x < trT a x := by omega
  unfold madeF
  clear hf ht
  generalize trF a x = f at *
  generalize trT a x = t at *
  have pe : ∀ p ∈ P,p.2 < t + 1 := fun p hp => by have := m.pe p hp; omega
  have ce : ∀ p ∈ C,p.2 < t + 1 := fun p hp => by have := m.ce p hp; omega
  by_cases c1 : L < t
  ·rw [if_pos c1]; exact ⟨a,m⟩
  ·rw [if_neg c1]
   by_cases c2 : pkI x.2.2 3 = 0 ∧ P.length < 4
   ·rw [if_pos c2]
    refine madeF_ok r (by omega) ⟨ordB_app hT (by simp only []; omega) m.oP (fun y hy => by have := m.pe y hy; simp only []; omega) (by simp only []; omega),m.oC,by simp; omega,m.c4, ?_,ce, ?_⟩
    ·intro p hp
     rcases List.mem_append.mp hp with hp | hp
     ·exact pe p hp
     ·rw [List.mem_singleton.mp hp]; simp only []; omega
    ·intro p hp
     rcases List.mem_append.mp hp with hp | hp
     ·exact m.dis p hp
     ·rw [List.mem_singleton.mp hp,meetB_false]
      intro y hy _
      have := m.ce y hy
      simp only []; omega
   ·rw [if_neg c2]
    by_cases c3 : C.length < 4
    ·rw [if_pos c3]
     refine madeF_ok r (by omega) ⟨m.oP,ordB_app hT (by simp only []; omega) m.oC (fun y hy => by have := m.ce y hy; simp only []; omega) (by simp only []; omega),m.p4,by simp; omega,pe, ?_, ?_⟩
     ·intro p hp
      rcases List.mem_append.mp hp with hp | hp
      ·exact ce p hp
      ·rw [List.mem_singleton.mp hp]; simp only []; omega
     ·intro p hp
      rw [meetB_false]
      intro y hy h
      rcases List.mem_append.mp hy with hy | hy
      ·exact meetB_false.mp (m.dis p hp) y hy h
      ·rw [List.mem_singleton.mp hy] at h ⊢
       have := m.pe p hp
       have := ordB_mem m.oP p hp
       simp only [] at h
       omega
    ·rw [if_neg c3]
     exact madeF_ok r (by omega) ⟨m.oP,m.oC,m.p4,m.c4,pe,ce,m.dis⟩
theorem made_ok (a b c : Int) (d : List Tr) : okLiv (madeLiv a b c d) := by
 have r1 := pkI_range a (n := 120) (by decide)
 have r2 := pkI_range b (n := 13) (by decide)
 have r3 := pkI_range c (n := 8) (by decide)
 obtain ⟨a',m⟩ := madeF_ok (L := 1 + pkI a 120) (d.take 6) (a := 0) (P := []) (C := []) (by omega) ⟨rfl,rfl,by simp,by simp,by simp,by simp,by simp⟩
 exact ⟨by simp only [madeLiv]; omega,by simp only [madeLiv]; omega,by simp only [madeLiv]; omega,m.oP,m.oC,m.p4,m.c4,m.dis⟩
def lvOf (l : Liv) : LV := ⟨l,false,false,if pts l.P = [] then 0 else 2,if pts l.C = [] then 0 else 2⟩
theorem lstV_eq (l : List Pr) : AV.lst (if pts l = [] then 0 else 2) (pts l) = lstV 2 (pts l) := by
 unfold lstV
 by_cases h : pts l = []
 ·rw [if_pos h,if_pos h,h]
 ·rw [if_neg h,if_neg h]
theorem lvOf_ok {l : Liv} (o : okLiv l) : okV (lvOf l) := by
 have h1 := o.p4
 have h2 := o.c4
 refine ⟨?_, ?_,by simp only [lvOf]; omega,by simp only [lvOf]; omega⟩
 ·by_cases h : pts l.P = []
  ·exact .inr h
  ·exact .inl (if_neg h)
 ·by_cases h : pts l.C = []
  ·exact .inr h
  ·exact .inl (if_neg h)
theorem lvOf_pV (l : Liv) : pV (lvOf l) = lstV 2 (pts l.P) := lstV_eq l.P
theorem lvOf_cV (l : Liv) : cV (lvOf l) = lstV 2 (pts l.C) := lstV_eq l.C
theorem lvOf_V (l : Liv) : lvV (lvOf l) = livV l := by unfold lvV livV; rw [lvOf_pV,lvOf_cV]; rfl
theorem lvOf_l (l : Liv) : (lvOf l).l = l := rfl
end Go.VI.Dump
namespace Go.VI.Dump
open Go.VI.Num
/- BIGSTEPS -/
theorem lst_sl (h : Heap) (z : Nat) (es : List AV) : Sl h z (.lst z es) es := sl_lst (.inl rfl)
end Go.VI.Dump
namespace Go.VI.Dump
open Go.VI.Num
/- BIGSTEPS -/
def stF (l : Liv) : Nat → Int → Int → List Stp
 | 0,_,_ => []
 | n + 1,s,d =>
  if l.L ≤ s then []
  else if hasB l.C s then (if 0 < d then ⟨s,s + 1,s + d,s + d,d,true,false⟩ :: stF l n (s + 1) (d - 1) else ⟨s,s + 1,s + d,s + d + 1,d,true,false⟩ :: stF l n (s + 1) d)
  else if strB l s d then ⟨s,s + l.E,s + d,s + d + l.E + 1,d,false,true⟩ :: stF l n (s + l.E) (d + 1)
  else ⟨s,s + 1,s + d,s + d + 1,d,false,false⟩ :: stF l n (s + 1) d
theorem stF_ok {l : Liv} (hE : 1 ≤ l.E) : ∀ (n : Nat) (s d : Int),l.L - s ≤ n → s ≤ l.L → 0 ≤ d → ∃ e,Ch l s d (stF l n s d) e
 | 0,s,d,h1,h2,h3 => by
  obtain rfl : s = l.L := by omega
  exact ⟨_,.nil d⟩
 | n + 1,s,d,h1,h2,h3 => by
  rw [stF]
  by_cases c : l.L ≤ s
  ·obtain rfl : s = l.L := by omega
   rw [if_pos c]; exact ⟨_,.nil d⟩
  ·rw [if_neg c]
   cases hc : hasB l.C s
   ·rw [if_neg Bool.false_ne_true]
    cases hs : strB l s d
    ·obtain ⟨e,h⟩ := stF_ok hE n (s + 1) d (by omega) (by omega) h3
     rw [if_neg Bool.false_ne_true]
     exact ⟨_,.pl (by omega) hc hs h⟩
    ·simp only [strB,Bool.and_eq_true,decide_eq_true_eq,Bool.not_eq_true'] at hs
     obtain ⟨a1,a2,a3,a4⟩ := hs
     obtain ⟨e,h⟩ := stF_ok hE n (s + l.E) (d + 1) (by omega) (by omega) (by omega)
     rw [if_pos rfl]
     exact ⟨_,.str (by omega) hc a1 a2 a3 a4 h⟩
   ·rw [if_pos rfl]
    by_cases hd : 0 < d
    ·obtain ⟨e,h⟩ := stF_ok hE n (s + 1) (d - 1) (by omega) (by omega) (by omega)
     rw [if_pos hd]
     exact ⟨_,.cutd (by omega) hc hd h⟩
    ·obtain ⟨e,h⟩ := stF_ok hE n (s + 1) d (by omega) (by omega) h3
     rw [if_neg hd]
     exact ⟨_,.cut0 (by omega) hc (by omega) h⟩
def l0 : Liv := ⟨12,3,2,[(8,9)],[(2,4)]⟩
def x0 : LV := ⟨l0,true,true,2,2⟩
theorem x0_ok : okV x0 := ⟨.inl rfl,.inl rfl,by decide,by decide⟩
theorem l0_ok : okLiv l0 := ⟨by decide,by decide,by decide,by decide,by decide,by decide,by decide,by decide⟩
def xs0 : List Stp := stF l0 12 0 3
theorem ch0 : ∃ e,Ch l0 0 l0.D xs0 e := stF_ok (by decide) 12 0 3 (by decide) (by decide) (by decide)
theorem air0 : airL l0 xs0 = [-1,-1,-1,0,1,4,4,5,6,6,7,8,9,10,11] := by decide
theorem del0 : delX xs0 = [3,3,3,2,1,1,2,2,3,3,3,3] := by decide
theorem ful0 : fulL l0 xs0 = [8] := by decide
theorem runs0 : runsL l0 = [(0,2),(4,12)] := by decide
theorem map0 : mapL (4,12) xs0 = [(4,5),(8,11),(12,15)] := by decide
end Go.VI.Dump
namespace Go.VI.Dump
open Go.VI.Num
/- BIGSTEPS -/
theorem lsf_cells (z : Nat) (es : List AV) : (AV.lsf z es).cells = [.lsf z es] := rfl
theorem lsf_val (z : Nat) (es : List AV) : (AV.lsf z es).val = true := rfl
theorem lst_cells (z : Nat) (es : List AV) : (AV.lst z es).cells = [.lst z es] := rfl
theorem lst_val (z : Nat) (es : List AV) : (AV.lst z es).val = true := rfl
abbrev v0 : AV := .agg [.int .i64 12,.int .i64 3,.int .i64 2,pV x0,cV x0]
theorem example_run (H : Heap) (lo : Nat) : (run lib).fn 45 [] H lo = some (v0,H) := by
 have e1 : pV x0 = .lsf 2 [.agg [.int .i64 8,.int .i64 9]] := rfl
 have e2 : cV x0 = .lsf 2 [.agg [.int .i64 2,.int .i64 4]] := rfl
 unfold v0
 rw [e1,e2,run_closed (x := x45) rfl rfl rfl rfl]
 simp (maxSteps := 30000000) (disch := omega) only [go_sem,x45,lsf_cells,lsf_val]
def SaneH : Heap := [(0,.dead)]
abbrev SaneH1 : Heap := SaneH ++ [(1,.box [.lst 0 []]),(1,.box [.lst 4 (qks [(4,5),(8,11),(12,15)])]),(1,.box [.int .i64 12,.int .i64 3,.int .i64 2,pV x0,cV x0])]
set_option maxRecDepth 100000
theorem cl_bad : (run lib).fn 14 [.agg [.int .i64 4,.int .i64 1,.int .i64 2,.nilSl,.lsf 2 [.agg [.int .i64 0,.int .i64 3]]]] SaneH1 SaneH.length = some (.tuple [.own 1 (ints [-1,-1,-1,3]),.int .i64 0],SaneH1) := (run_iff lib).mpr ⟨3000,by kernel_rfl⟩
theorem cl_em : (run lib).fn 14 [.agg [.int .i64 0,.int .i64 0,.int .i64 0,.nilSl,.nilSl]] SaneH1 SaneH.length = some (.tuple [.own 0 [],.int .i64 200],SaneH1) := (run_iff lib).mpr ⟨3000,by kernel_rfl⟩
theorem cl_val : (run lib).fn 22 [.agg [.int .i64 0,.int .i64 0,.int .i64 0,.nilSl,.nilSl]] SaneH1 SaneH.length = some (.bool false,SaneH1) := (run_iff lib).mpr ⟨3000,by kernel_rfl⟩
theorem cl_pl : (run lib).fn 29 [v0,.lsf 3 [.agg [.int .i64 0,.int .i64 5,.int .i64 7],.agg [.int .i64 5,.int .i64 12,.int .i64 8]]] SaneH1 SaneH.length = some (.tuple [.own 3 [.agg [.int .i64 0,.int .i64 3,.int .i64 0],.agg [.int .i64 3,.int .i64 7,.int .i64 7],.agg [.int .i64 7,.int .i64 15,.int .i64 8]],.int .i64 0],SaneH1) := (run_iff lib).mpr ⟨3000,by kernel_rfl⟩
theorem cl_i0 : (run lib).fn 24 [.lst 1 (ints [-1,-1,-1,0,1,4,4,5,6,6,7,8,9,10,11]),.lsf 1 [.int .i64 (-1),.int .i64 (-1),.int .i64 (-1),.int .i64 0,.int .i64 1,.int .i64 4,.int .i64 4,.int .i64 5,.int .i64 6,.int .i64 6,.int .i64 7,.int .i64 8,.int .i64 9,.int .i64 10,.int .i64 11]] SaneH1 SaneH.length = some (.bool true,SaneH1) := (run_iff lib).mpr ⟨3000,by kernel_rfl⟩
theorem cl_i1 : (run lib).fn 24 [.lst 1 (ints [3,3,3,2,1,1,2,2,3,3,3,3]),.lsf 1 [.int .i64 3,.int .i64 3,.int .i64 3,.int .i64 2,.int .i64 1,.int .i64 1,.int .i64 2,.int .i64 2,.int .i64 3,.int .i64 3,.int .i64 3,.int .i64 3]] SaneH1 SaneH.length = some (.bool true,SaneH1) := (run_iff lib).mpr ⟨3000,by kernel_rfl⟩
theorem cl_i2 : (run lib).fn 24 [.lst 1 (ints [8]),.lsf 1 [.int .i64 8]] SaneH1 SaneH.length = some (.bool true,SaneH1) := (run_iff lib).mpr ⟨3000,by kernel_rfl⟩
theorem cl_i3 : (run lib).fn 24 [.lst 1 (ints [-1,-1,-1,3]),.lsf 1 [.int .i64 (-1),.int .i64 (-1),.int .i64 (-1),.int .i64 3]] SaneH1 SaneH.length = some (.bool true,SaneH1) := (run_iff lib).mpr ⟨3000,by kernel_rfl⟩
theorem cl_w4 : (run lib).fn 41 [.int .i64 4] SaneH1 SaneH.length = some (.agg [.str [52],.str [49]],SaneH1) := (run_iff lib).mpr ⟨3000,by kernel_rfl⟩
theorem cl_w5 : (run lib).fn 41 [.int .i64 5] SaneH1 SaneH.length = some (.agg [.str [53],.str [49]],SaneH1) := (run_iff lib).mpr ⟨3000,by kernel_rfl⟩
theorem cl_w8 : (run lib).fn 41 [.int .i64 8] SaneH1 SaneH.length = some (.agg [.str [56],.str [49]],SaneH1) := (run_iff lib).mpr ⟨3000,by kernel_rfl⟩
theorem cl_w11 : (run lib).fn 41 [.int .i64 11] SaneH1 SaneH.length = some (.agg [.str [49,49],.str [49]],SaneH1) := (run_iff lib).mpr ⟨3000,by kernel_rfl⟩
theorem cl_w12 : (run lib).fn 41 [.int .i64 12] SaneH1 SaneH.length = some (.agg [.str [49,50],.str [49]],SaneH1) := (run_iff lib).mpr ⟨3000,by kernel_rfl⟩
theorem cl_w15 : (run lib).fn 41 [.int .i64 15] SaneH1 SaneH.length = some (.agg [.str [49,53],.str [49]],SaneH1) := (run_iff lib).mpr ⟨3000,by kernel_rfl⟩
theorem cl_s19 : (run lib).fn 28 [.agg [.lst 4 (qks [(4,5),(8,11),(12,15)])],.agg [.lsf 4 [.agg [.str [52],.str [49],.str [53],.str [49]],.agg [.str [56],.str [49],.str [49,49],.str [49]],.agg [.str [49,50],.str [49],.str [49,53],.str [49]]]]] SaneH1 SaneH.length = some (.bool true,SaneH1) := (run_iff lib).mpr ⟨3000,by kernel_rfl⟩
theorem cl_s15 : (run lib).fn 31 [.lst 3 [.agg [.int .i64 0,.int .i64 3,.int .i64 0],.agg [.int .i64 3,.int .i64 7,.int .i64 7],.agg [.int .i64 7,.int .i64 15,.int .i64 8]],.lsf 3 [.agg [.int .i64 0,.int .i64 3,.int .i64 0],.agg [.int .i64 3,.int .i64 7,.int .i64 7],.agg [.int .i64 7,.int .i64 15,.int .i64 8]]] SaneH1 SaneH.length = some (.bool true,SaneH1) := (run_iff lib).mpr ⟨3000,by kernel_rfl⟩
theorem cl_ss : (run lib).fn 25 [.lst 2 (pts [(0,2),(4,12)]),.lsf 2 [.agg [.int .i64 0,.int .i64 2],.agg [.int .i64 4,.int .i64 12]]] SaneH1 SaneH.length = some (.bool true,SaneH1) := (run_iff lib).mpr ⟨3000,by kernel_rfl⟩
end Go.VI.Dump
namespace Go.VI.Dump
open Go.VI.Num
/- BIGSTEPS -/
set_option pp.maxSteps 200000 in
set_option pp.deepTerms true in
theorem sane_run (lo : Nat) : (run lib).fn 11 [] SaneH lo = some (.bool true,SaneH) := by
 obtain ⟨e,ch⟩ := ch0
 have a1 : ∀ H lo,(run lib).fn 14 [lvV x0] H lo = _ := fun H lo => dair_run x0_ok l0_ok (x := x0) ch H lo
 have a2 : ∀ H lo,(run lib).fn 16 [lvV x0] H lo = _ := fun H lo => ddel_run x0_ok l0_ok (x := x0) ch H lo
 have a3 : ∀ H lo,(run lib).fn 18 [lvV x0] H lo = _ := fun H lo => dfull_run x0_ok l0_ok (x := x0) ch H lo
 have a4 : ∀ H lo,(run lib).fn 20 [lvV x0] H lo = _ := fun H lo => druns_run x0_ok l0_ok (x := x0) H lo
 have a5 : ∀ H lo,(run lib).fn 26 [lvV x0,.int .i64 (1 : Nat)] H lo = _ := fun H lo => dmap_run x0_ok l0_ok (x := x0) ch (k := 1) (by decide) H lo
 have a6 : ∀ H lo,(run lib).fn 26 [lvV x0,.int .i64 2] H lo = _ := fun H lo => dmap_bad2 x0_ok l0_ok (x := x0) (k := 2) (.inr (by decide)) H lo
 have a7 : ∀ H lo,(run lib).fn 22 [lvV x0] H lo = some (.bool true,H) := fun H lo => dvalid_run x0_ok H lo
 have r1 : (runsL x0.l)[1]'(by decide) = ((4,12) : Pr) := by decide
 rw [r1] at a5
 have ev : lvV x0 = v0 := rfl
 simp only [ev,show x0.l = l0 from rfl,air0,del0,ful0,runs0,map0] at a1 a2 a3 a4 a5 a6 a7
 rw [show ownV 1 (ints [3,3,3,2,1,1,2,2,3,3,3,3]) = .own 1 (ints [3,3,3,2,1,1,2,2,3,3,3,3]) from rfl] at a2
 rw [show mkO (ints [8]) = .own 1 (ints [8]) from rfl] at a3
 rw [show ownV 2 (pts [(0,2),(4,12)]) = .own 2 (pts [(0,2),(4,12)]) from rfl] at a4
 rw [show (((1 : Nat) : Int)) = 1 from rfl] at a5
 have a8 := example_run
 simp only [v0] at a1 a2 a3 a4 a5 a6 a7 a8
 obtain ⟨h,hh⟩ : ∃ h,h = SaneH := ⟨_,rfl⟩
 have b1 := cl_bad
 have b2 := cl_em
 have b3 := cl_val
 have b4 := cl_pl
 have b5 := cl_i0
 have b6 := cl_i1
 have b7 := cl_i2
 have b8 := cl_i3
 have b9 := cl_w4
 have b10 := cl_w5
 have b11 := cl_w8
 have b12 := cl_w11
 have b13 := cl_w12
 have b14 := cl_w15
 have b15 := cl_s19
 have b16 := cl_s15
 have b17 := cl_ss
 simp only [SaneH1,← hh,v0] at b1 b2 b3 b4 b5 b6 b7 b8 b9 b10 b11 b12 b13 b14 b15 b16 b17
 rw [← hh]
 rw [run_closed (x := x11) rfl rfl rfl rfl]
 simp (maxSteps := 30000000) (disch := omega) only [go_sem,x11,b1,b2,b3,b4,b5,b6,b7,b8,b9,b10,b11,b12,b13,b14,b15,b16,b17,a1,a2,a3,a4,a5,a6,a7,a8,lsf_cells,lsf_val,lst_cells,lst_val]
end Go.VI.Dump
namespace Go.VI.Dump
open Go.VI.Num
theorem tris_of {cs : List AV} (h : TyL (.slice 3 (.agg [.int .i64,.int .i64,.int .i64])) cs) : ∃ l : List Tr,(∀ hp,Sl hp 3 (Shp.mk (.slice 3 (.agg [.int .i64,.int .i64,.int .i64])) cs) (tris l)) ∧ l.length ≤ 9223372036854775807 ∧ ∀ x ∈ l,I64 x.1 ∧ I64 x.2.1 ∧ I64 x.2.2 := by
 obtain ⟨es,h1,h2,h3⟩ := slice_of h
 obtain ⟨l,rfl,h4⟩ := list_of (f := tri) (Q := fun x => I64 x.1 ∧ I64 x.2.1 ∧ I64 x.2.2) (es := es) fun x hx => by
  obtain ⟨c,rfl,hc⟩ := h3 x hx
  simp only [TyL,TyLs] at hc
  obtain ⟨a,b,rfl,⟨n,rfl,hn⟩,a',b',rfl,⟨n',rfl,hn'⟩,a'',b'',rfl,⟨n'',rfl,hn''⟩,rfl⟩ := hc
  obtain ⟨m,e1,o1⟩ := i64_of (cs := [.int .i64 n]) (by simp only [TyL]; exact ⟨n,rfl,hn⟩)
  obtain ⟨m',e2,o2⟩ := i64_of (cs := [.int .i64 n']) (by simp only [TyL]; exact ⟨n',rfl,hn'⟩)
  obtain ⟨m'',e3,o3⟩ := i64_of (cs := [.int .i64 n'']) (by simp only [TyL]; exact ⟨n'',rfl,hn''⟩)
  simp only [List.cons.injEq,AV.int.injEq,true_and,and_true] at e1 e2 e3
  subst e1 e2 e3
  exact ⟨(n,n',n''),rfl,o1,o2,o3⟩
 exact ⟨l,h1,by simpa using h2,h4⟩
def shMade : List Shp := [.int .i64,.int .i64,.int .i64,.slice 3 (.agg [.int .i64,.int .i64,.int .i64])]
theorem dint_of {t : List AV} (h : TyL (.int .i64) t) : ∃ n,Shp.mk (.int .i64) t = .int .i64 n ∧ I64 n := by
 obtain ⟨n,rfl,h1,h2⟩ := i64_of h
 exact ⟨n,rfl,h1,h2⟩
theorem walk_made {f : Nat} (H : ∀ {a b c : Int},I64 a → I64 b → I64 c → ∀ {v : AV} {d : List Tr},(∀ H,Sl H 3 v (tris d)) → d.length ≤ 9223372036854775807 → (∀ x ∈ d,I64 x.1 ∧ I64 x.2.1 ∧ I64 x.2.2) → (run lib).fn f [.int .i64 a,.int .i64 b,.int .i64 c,v] [] 0 = some (.bool true,[]))
  (xs : List AV) (ht : TyA shMade xs) : ∃ h',(run lib).fn f xs [] 0 = some (.bool true,h') := by
 simp only [shMade,TyA] at ht
 obtain ⟨c0,r0,rfl,t0,c1,r1,rfl,t1,c2,r2,rfl,t2,c3,r3,rfl,t3,rfl⟩ := ht
 obtain ⟨a,e0,h0⟩ := dint_of t0
 obtain ⟨b,e1,h1⟩ := dint_of t1
 obtain ⟨c,e2,h2⟩ := dint_of t2
 obtain ⟨d,s3,l3,h3⟩ := tris_of t3
 rw [e0,e1,e2]
 exact ⟨_,H h0 h1 h2 s3 l3 h3⟩
theorem sane_at (lo : Nat) : (run lib).fn 11 [] ([] ++ [(0,.dead)]) lo = some (.bool true,[] ++ [(0,.dead)]) := sane_run lo
end Go.VI.Dump
