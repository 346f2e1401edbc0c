/- What the functions on integers compute, part MB. -/
import Derived.Test.YtfpoegnmeoghpaaGreatDoorDumpTab
import Derived.Test.YtfpoegnmeoghpaaGreatDoorVGS
import Derived.Test.YtfpoegnmeoghpaaGreatDoorDumpMA
set_option linter.unusedVariables false
set_option linter.unusedSimpArgs false
namespace Go.VI.Dump
open Go.VI.Num
def ints (l : List Int) : List AV := l.map (.int .i64)
@[simp] theorem ints_len (l : List Int) : (ints l).length = l.length := by simp [ints]
theorem ints_get (l : List Int) (k : Nat) (h : k < (ints l).length) : (ints l)[k] = .int .i64 (l[k]'(by simpa using h)) := by simp [ints]
theorem ints_app (a b : List Int) : ints (a ++ b) = ints a ++ ints b := by simp [ints]
theorem ints_one (x : Int) : ints [x] = [.int .i64 x] := rfl
theorem cast1 (k : Nat) : ((k + 1 : Nat) : Int) = (k : Int) + 1 := by simp
theorem at_run {v : AV} {l : List Int} {h : Heap} (hv : Sl h 1 v (ints l)) (hl : l.length ≤ 1000000) (i : Nat) (hi : i ≤ 1000000) (lo : Nat) : (run lib).fn 152 [v,.int .i64 i] h lo = some (.int .i64 (l.getD i 0),h) := by
 have s3 := lenv_sl hv.len
 rw [ints_len] at s3
 rw [run_closed (x := x152) rfl rfl rfl rfl]
 by_cases c : i < l.length
 ·have c1 : (i : Int) < l.length := by omega
  have e3 : sidx 1 v (.int .i64 i) = some i := by rw [sidx_sl hv (by omega) (by simp; omega)]; simp
  have e4 := fun off => pc_iptr (off := off) hv.elems0 (show i < (ints l).length by simp; omega)
  simp only [ints_get] at e4
  have hg : l.getD i 0 = l[i] := by rw [List.getD_eq_getElem?_getD,List.getElem?_eq_getElem c]; rfl
  rw [hg]
  simp (maxSteps := 1000000) (disch := omega) only [go_sem,x152,s3,c1,e3,e4]
 ·have c1 : ¬ (i : Int) < l.length := by omega
  rw [getD_out (by omega)]
  simp (maxSteps := 1000000) (disch := omega) only [go_sem,x152,s3,c1]
theorem fold_loop {f : Nat} {caps : List AV} {g : Nat → Int} {n : Nat} (hf : f < 1000) (hn : n ≤ 100000) (hd : ∀ (i : Nat) (h : Heap) (lo : Nat),i ≤ 200000 → (run lib).fn f (.int .i64 i :: caps) h lo = some (.int .i64 (g i),h)) (hg : ∀ i,-9999 ≤ g i ∧ g i ≤ 100000000) (h : Heap) (fu : Nat) :
  ∀ (i : Nat) (c : Int) (acc : List Int),i + fu ≤ 200000 → acc.length = i → -1 ≤ c → c ≤ 20000 → foldEnd g n fu i c = true →
  runC lib ⟨h.length,h.length,2,none⟩ (.loop b150_0) ([(0,.int .i64 n),(1,.int .i64 c),(2,.fn f caps),(7,.ref (h.length + 1) 1 1 0 acc.length acc.length),(8,.int .i64 i)],h ++ [(0,.dead),(1,.arr 1 (ints acc))]) =
   some (.exit 0,([(7,.ref (h.length + 1) 1 1 0 (acc ++ foldS g n fu i c).length (acc ++ foldS g n fu i c).length)],h ++ [(0,.dead),(1,.arr 1 (ints (acc ++ foldS g n fu i c)))])) := by
 induction fu with
 | zero =>
  intro i c acc h1 h2 h3 h4 h5
  simp only [foldEnd,decide_eq_true_eq] at h5
  have c1 : ¬ (i : Int) < n := by omega
  have c2 : c = 0 := by omega
  subst c2
  rw [w_loop]
  simp only [foldS,List.append_nil]
  simp (maxSteps := 1000000) (disch := omega) only [go_sem,c1]
 | succ fu ih =>
  intro i c acc h1 h2 h3 h4 h5
  by_cases hst : i < n ∨ c ≠ 0
  ·have hdi := fun h lo => hd i h lo (by omega)
   have hgi := hg i
   have ea := fun x : Int => app_ref (cx := ⟨h.length,h.length,2,none⟩) (s := 0) (z := 1) (lim := 17592186044416) (id := h.length + 1) (ver := 1) (h := h ++ [(0,.dead),(1,.arr 1 (ints acc))]) (es := ints acc) (xs := [.int .i64 x]) (by rw [get_fr]; rfl) (by simp) (by simp; omega)
   simp only [ints_len,set_fr,List.set_cons_succ,List.set_cons_zero,List.length_singleton] at ea
   have key : ∀ (x c' : Int),-1 ≤ c' → c' ≤ 20000 → foldEnd g n fu (i + 1) c' = true → runC lib ⟨h.length,h.length,2,none⟩ (.loop b150_0) ([(0,.int .i64 n),(1,.int .i64 c'),(2,.fn f caps),(7,.ref (h.length + 1) 1 1 0 (acc.length + 1) (acc.length + 1)),(8,.int .i64 ((i : Int) + 1))],h ++ [(0,.dead),(1,.arr 1 (ints acc ++ [.int .i64 x]))]) =
     some (.exit 0,([(7,.ref (h.length + 1) 1 1 0 (acc ++ x :: foldS g n fu (i + 1) c').length (acc ++ x :: foldS g n fu (i + 1) c').length)],h ++ [(0,.dead),(1,.arr 1 (ints (acc ++ x :: foldS g n fu (i + 1) c')))])) := fun x c' k1 k2 k3 => by
    have := ih (i + 1) c' (acc ++ [x]) (by omega) (by simp; omega) k1 k2 k3
    rw [cast1,ints_app,ints_one,List.append_assoc,List.singleton_append] at this
    simpa using this
   have hif : ((i : Int) < n) ∨ (¬ (i : Int) < n ∧ ¬ c = 0) := by omega
   simp only [foldEnd,foldS,hst,if_true] at h5 ⊢
   generalize g i = y at *
   have w1 : IntKind.i64.wrap (y + c) = y + c := wrap_id (by omega) (by omega)
   by_cases c1 : y + c < 0
   ·rw [if_pos c1] at h5 ⊢
    have k := key (y + c + 10000) (-1) (by omega) (by omega) h5
    rw [w_loop]
    rcases hif with c3 | ⟨c3,c4⟩
    ·simp (maxSteps := 1000000) (disch := omega) only [go_sem,c3,hf,hdi,w1,c1,ea,k]
    ·simp (maxSteps := 1000000) (disch := omega) only [go_sem,c3,c4,hf,hdi,w1,c1,ea,k]
   ·rw [if_neg c1] at h5 ⊢
    by_cases c2 : 10000 ≤ y + c
    ·rw [if_pos c2] at h5 ⊢
     have k := key ((y + c) % 10000) ((y + c) / 10000) (by omega) (by omega) h5
     rw [w_loop]
     rcases hif with c3 | ⟨c3,c4⟩
     ·simp (maxSteps := 1000000) (disch := omega) only [go_sem,c3,hf,hdi,w1,c1,c2,ea,k]
     ·simp (maxSteps := 1000000) (disch := omega) only [go_sem,c3,c4,hf,hdi,w1,c1,c2,ea,k]
    ·rw [if_neg c2] at h5 ⊢
     have k := key (y + c) 0 (by omega) (by omega) h5
     rw [w_loop]
     rcases hif with c3 | ⟨c3,c4⟩
     ·simp (maxSteps := 1000000) (disch := omega) only [go_sem,c3,hf,hdi,w1,c1,c2,ea,k]
     ·simp (maxSteps := 1000000) (disch := omega) only [go_sem,c3,c4,hf,hdi,w1,c1,c2,ea,k]
  ·have c1 : ¬ (i : Int) < n := by omega
   have c2 : c = 0 := by omega
   subst c2
   rw [w_loop]
   simp only [foldS,hst,if_false,List.append_nil]
   simp (maxSteps := 1000000) (disch := omega) only [go_sem,c1]
end Go.VI.Dump
namespace Go.VI.Dump
open Go.VI.Num
theorem fold_run {f : Nat} {caps : List AV} {g : Nat → Int} {n : Nat} (hf : f < 1000) (hn : n ≤ 100000) (hd : ∀ (i : Nat) (h : Heap) (lo : Nat),i ≤ 200000 → (run lib).fn f (.int .i64 i :: caps) h lo = some (.int .i64 (g i),h)) (hg : ∀ i,-9999 ≤ g i ∧ g i ≤ 100000000) (he : foldEnd g n (n + 3) 0 0 = true) (h : Heap) (lo : Nat) :
  (run lib).fn 150 [.int .i64 n,.int .i64 0,.fn f caps] h lo = some (.own 1 (ints (foldS g n (n + 3) 0 0)),h) := by
 have e := fold_loop hf hn hd hg h (n + 3) 0 0 [] (by omega) rfl (by omega) (by omega) he
 simp only [List.nil_append,List.length_nil,Int.natCast_zero,ints,List.map_nil] at e
 have hmk := fun hh => mks_ok (h := hh) (cx := ⟨h.length,h.length,2,none⟩) (s := 1) (z := 1) (zero := .int .i64 0) (lim := 17592186044416) (k := .i64) (k' := .i64) (a := 0) (b := (n : Int) + 1) (by omega) (by omega) (by omega)
 have hgv := give_fr (s := 1) (ver := 1) (z := 1) (h := h) (es := ints (foldS g n (n + 3) 0 0)) (fr := [(0,.dead),(1,.arr 1 (ints (foldS g n (n + 3) 0 0)))]) rfl
 simp only [ints,List.length_map] at hgv
 rw [run_closed (x := x150) rfl rfl rfl rfl]
 simp only [ints]
 simp (maxSteps := 1000000) (disch := omega) only [go_sem,x150,hmk,mkr,List.replicate_zero,e,giveRes,hgv,Option.map_some]
theorem plus1_run {v u : AV} {a b : List Int} (hv : PureSl 1 v (ints a)) (hu : PureSl 1 u (ints b)) (ha : a.length ≤ 1000000) (hb : b.length ≤ 1000000) (da : Dig a) (db : Dig b) (i : Nat) (h : Heap) (lo : Nat) (hi : i ≤ 200000) :
  (run lib).fn 151 [.int .i64 i,.cptr [v],.cptr [u]] h lo = some (.int .i64 (a.getD i 0 + b.getD i 0),h) := by
 have e1 := fun H lo => at_run (hv.sl H) ha i (by omega) lo
 have e2 := fun H lo => at_run (hu.sl H) hb i (by omega) lo
 have g1 := getD_dig da i
 have g2 := getD_dig db i
 rw [run_closed (x := x151) rfl rfl rfl rfl]
 generalize a.getD i 0 = x at *
 generalize b.getD i 0 = y at *
 simp (maxSteps := 1000000) (disch := omega) only [go_sem,x151,e1,e2]
theorem minus1_run {v u : AV} {a b : List Int} (hv : PureSl 1 v (ints a)) (hu : PureSl 1 u (ints b)) (ha : a.length ≤ 1000000) (hb : b.length ≤ 1000000) (da : Dig a) (db : Dig b) (i : Nat) (h : Heap) (lo : Nat) (hi : i ≤ 200000) :
  (run lib).fn 153 [.int .i64 i,.cptr [v],.cptr [u]] h lo = some (.int .i64 (a.getD i 0 - b.getD i 0),h) := by
 have e1 := fun H lo => at_run (hv.sl H) ha i (by omega) lo
 have e2 := fun H lo => at_run (hu.sl H) hb i (by omega) lo
 have g1 := getD_dig da i
 have g2 := getD_dig db i
 rw [run_closed (x := x153) rfl rfl rfl rfl]
 generalize a.getD i 0 = x at *
 generalize b.getD i 0 = y at *
 simp (maxSteps := 1000000) (disch := omega) only [go_sem,x153,e1,e2]
theorem by1_run {v : AV} {a : List Int} (hv : PureSl 1 v (ints a)) (ha : a.length ≤ 1000000) (da : Dig a) (k : Int) (hk : 0 ≤ k ∧ k ≤ 10000) (i : Nat) (h : Heap) (lo : Nat) (hi : i ≤ 200000) :
  (run lib).fn 176 [.int .i64 i,.cptr [v],.cptr [.int .i64 k]] h lo = some (.int .i64 (a.getD i 0 * k),h) := by
 have e1 := fun H lo => at_run (hv.sl H) ha i (by omega) lo
 have g1 := getD_dig da i
 have h2 : 0 ≤ a.getD i 0 * k := Int.mul_nonneg g1.1 hk.1
 have h3 : a.getD i 0 * k ≤ 9999 * 10000 := Int.mul_le_mul g1.2 hk.2 hk.1 (by omega)
 rw [run_closed (x := x176) rfl rfl rfl rfl]
 have w1 : IntKind.i64.wrap (a.getD i 0 * k) = a.getD i 0 * k := wrap_id (by omega) (by omega)
 simp (maxSteps := 1000000) (disch := omega) only [go_sem,x176,e1,w1]
theorem trim_loop {l : List Int} (hl : l.length ≤ 1000000) (cx : Cx) (H : Heap) : ∀ k : Nat,k ≤ l.length →
  runC lib cx (.loop b146_0) ([(0,.lst 1 (ints (l.take k)))],H) = some (.exit 0,([(0,.lst 1 (ints (l.take (trimK l k))))],H)) := by
 intro k
 induction k with
 | zero =>
  intro hk
  rw [w_loop]
  have s3 : lenv false (.lst 1 (ints [])) = some (.int .i64 0) := rfl
  simp only [List.take_zero,trimK]
  simp (maxSteps := 1000000) (disch := omega) only [go_sem,s3,Int.lt_irrefl]
 | succ k ih =>
  intro hk
  have hs := Sl.lst H 1 (ints (l.take (k + 1)))
  have s3 := lenv_sl hs.len
  rw [ints_len,List.length_take,Nat.min_eq_left hk,cast1] at s3
  have hlen : (ints (l.take (k + 1))).length = k + 1 := by simp; omega
  have c1 : (0 : Int) < (k : Int) + 1 := by omega
  have e0 : (k : Int) + 1 - 1 = k := by omega
  have e3 : sidx 1 (.lst 1 (ints (l.take (k + 1)))) (.int .i64 k) = some k := by rw [sidx_sl hs (by omega) (by rw [hlen]; omega)]; simp
  have e4 := fun off => pc_iptr (off := off) hs.elems0 (show k < (ints (l.take (k + 1))).length by rw [hlen]; omega)
  simp only [ints_get,List.getElem_take] at e4
  have hg : l.getD k 0 = l[k] := by rw [List.getD_eq_getElem?_getD,List.getElem?_eq_getElem (by omega)]; rfl
  have hsl : slicev (some 1) (.lst 1 (ints (l.take (k + 1)))) none (some (.int .i64 k)) = some (.lst 1 (ints (l.take k))) := by
   have hb : bnd (some (.int .i64 k)) (k + 1) (k + 1) = some k := by rw [bnd_ok (by omega) (by omega)]; simp
   simp only [slicev,zok,beq_self_eq_true,Bool.true_or,if_true,hlen,hb,Option.bind_some]
   simp [bnd,ints,List.take_take]
  have ih' := ih (by omega)
  simp only [trimK,hg]
  rw [w_loop]
  by_cases c2 : l[k] = 0
  ·rw [if_pos c2]
   simp (maxSteps := 1000000) (disch := omega) only [go_sem,s3,c1,e0,e3,e4,c2,hsl,ih']
  ·rw [if_neg c2]
   simp (maxSteps := 1000000) (disch := omega) only [go_sem,s3,c1,e0,e3,e4,c2]
theorem trim_run {l : List Int} (hl : l.length ≤ 1000000) (h : Heap) (lo : Nat) : (run lib).fn 146 [.lst 1 (ints l)] h lo = some (.lst 1 (ints (trimL l)),h) := by
 have e := fun cx H => trim_loop hl cx H l.length (Nat.le_refl _)
 simp only [List.take_length] at e
 rw [run_closed (x := x146) rfl rfl rfl rfl]
 unfold trimL
 simp (maxSteps := 1000000) (disch := omega) only [go_sem,x146,e]
theorem bck_lst (cx : Cx) (z : Nat) (es : List AV) (H : Heap) : bck cx [(0,0)] (some (.lst z es,H)) = some (.lst z es,H) := rfl
theorem foldS_len (g : Nat → Int) (n : Nat) : ∀ (f i : Nat) (c : Int),(foldS g n f i c).length ≤ f
 | 0,_,_ => Nat.le_refl _
 | f + 1,i,c => by
  simp only [foldS]
  split
  ·split
   ·have := foldS_len g n f (i + 1) (-1); simp; omega
   ·split
    ·have := foldS_len g n f (i + 1) ((g i + c) / 10000); simp; omega
    ·have := foldS_len g n f (i + 1) 0; simp; omega
  ·simp
theorem PureSl_frz {z : Nat} {v : AV} {es : List AV} (p : PureSl z v es) : ∃ v',(∀ b k h,frz b k v h = some (v',h)) ∧ v.val = true ∧ v'.val = true ∧ PureSl z v' es ∧ v'.cells = [v'] := by
 rcases p with ⟨rfl,rfl⟩ | ⟨z',rfl | rfl,hz⟩
 ·exact ⟨.lst 0 [],fun b k h => by simp [VI.frz],rfl,rfl,.inr ⟨0,.inl rfl,.inr rfl⟩,rfl⟩
 ·exact ⟨.lst z' es,fun b k h => by simp [VI.frz],rfl,rfl,.inr ⟨z',.inl rfl,hz⟩,rfl⟩
 ·exact ⟨.lsf z' es,fun b k h => by simp [VI.frz],rfl,rfl,.inr ⟨z',.inr rfl,hz⟩,rfl⟩
theorem plus_run {v u : AV} {a b : Nat} (hv : PureSl 1 v (ints (grp a))) (hu : PureSl 1 u (ints (grp b))) (ha : (grp a).length ≤ 50000) (hb : (grp b).length ≤ 50000) (h : Heap) (lo : Nat) :
  (run lib).fn 111 [v,u] h lo = some (.lst 1 (ints (grp (a + b))),h) := by
 obtain ⟨v',f1,f2,f3,f4,f5⟩ := PureSl_frz hv
 obtain ⟨u',g1,g2,g3,g4,g5⟩ := PureSl_frz hu
 have da := dig_grp a
 have db := dig_grp b
 have fo := fold_run (f := 151) (caps := [.cptr [v'],.cptr [u']]) (g := fun i => (grp a).getD i 0 + (grp b).getD i 0) (n := max (grp a).length (grp b).length) (by omega) (by omega)
  (fun i h lo hi => plus1_run f4 g4 (by omega) (by omega) da db i h lo hi) (fun i => by have := getD_dig da i; have := getD_dig db i; omega)
  (fold_end (fun i => by have := getD_dig da i; have := getD_dig db i; omega) (fun i hi => by rw [getD_out (by omega),getD_out (by omega)]; rfl) _ 0 0 (by omega) (by omega) (fun _ => by omega) (fun h => by omega) (by
   rw [gs_add,gs_getD (grp a) _ _ (by omega),gs_getD (grp b) _ _ (by omega)]
   have := gv_nn da; have := gv_nn db; simp only [List.drop_zero]; omega))
 have hp := plus_ok da db
 rw [gv_grp,gv_grp] at hp
 have e0 : ((a : Int) + b).toNat = a + b := by omega
 rw [e0] at hp
 have hFl := foldS_len (fun i => (grp a).getD i 0 + (grp b).getD i 0) (max (grp a).length (grp b).length) (max (grp a).length (grp b).length + 3) 0 0
 generalize foldS (fun i => (grp a).getD i 0 + (grp b).getD i 0) (max (grp a).length (grp b).length) (max (grp a).length (grp b).length + 3) 0 0 = F at *
 have ht := trim_run (l := F) (by omega)
 rw [hp] at ht
 have s1 := lenv_sl (f4.sl []).len
 have s2 := lenv_sl (g4.sl []).len
 simp only [ints_len] at s1 s2
 have em : max ((grp a).length : Int) ((grp b).length : Int) = ((max (grp a).length (grp b).length : Nat) : Int) := by omega
 rw [run_closed (x := x111) rfl rfl rfl rfl]
 simp (maxSteps := 1000000) (disch := omega) only [go_sem,x111,f1,f2,f3,f5,g1,g2,g3,g5,s1,s2,em,fo,ht,bck_lst]
theorem minus_run {v u : AV} {a b : Nat} (hv : PureSl 1 v (ints (grp a))) (hu : PureSl 1 u (ints (grp b))) (hab : b ≤ a) (ha : (grp a).length ≤ 50000) (h : Heap) (lo : Nat) :
  (run lib).fn 113 [v,u] h lo = some (.lst 1 (ints (grp (a - b))),h) := by
 obtain ⟨v',f1,f2,f3,f4,f5⟩ := PureSl_frz hv
 obtain ⟨u',g1,g2,g3,g4,g5⟩ := PureSl_frz hu
 have da := dig_grp a
 have db := dig_grp b
 have hbl := grp_len_le hab
 have hz : ∀ i,(grp a).length ≤ i → (grp a).getD i 0 - (grp b).getD i 0 = 0 := fun i hi => by rw [getD_out (by omega),getD_out (by omega)]; rfl
 have hg : ∀ i,-9999 ≤ (grp a).getD i 0 - (grp b).getD i 0 ∧ (grp a).getD i 0 - (grp b).getD i 0 ≤ 100000000 := fun i => by have := getD_dig da i; have := getD_dig db i; omega
 have fo := fold_run (f := 153) (caps := [.cptr [v'],.cptr [u']]) (g := fun i => (grp a).getD i 0 - (grp b).getD i 0) (n := (grp a).length) (by omega) (by omega)
  (fun i h lo hi => minus1_run f4 g4 (by omega) (by omega) da db i h lo hi) hg
  (fold_end hg hz _ 0 0 (by omega) (by omega) (fun _ => by omega) (fun h => by omega) (by
   rw [gs_sub,gs_getD (grp a) _ _ (by omega),gs_getD (grp b) _ _ (by omega),List.drop_zero,List.drop_zero,gv_grp,gv_grp]; omega))
 have hp := minus_ok da db hbl (by rw [gv_grp,gv_grp]; omega)
 rw [gv_grp,gv_grp] at hp
 have e0 : ((a : Int) - b).toNat = a - b := by omega
 rw [e0] at hp
 have hFl := foldS_len (fun i => (grp a).getD i 0 - (grp b).getD i 0) (grp a).length ((grp a).length + 3) 0 0
 generalize foldS (fun i => (grp a).getD i 0 - (grp b).getD i 0) (grp a).length ((grp a).length + 3) 0 0 = F at *
 have ht := trim_run (l := F) (by omega)
 rw [hp] at ht
 have s1 := lenv_sl (f4.sl []).len
 have s2 := lenv_sl (g4.sl []).len
 simp only [ints_len] at s1 s2
 rw [run_closed (x := x113) rfl rfl rfl rfl]
 simp (maxSteps := 1000000) (disch := omega) only [go_sem,x113,f1,f2,f3,f5,g1,g2,g3,g5,s1,s2,fo,ht,bck_lst]
theorem by_run {v : AV} {a k : Nat} (hv : PureSl 1 v (ints (grp a))) (hk : k ≤ 10000) (ha : (grp a).length ≤ 50000) (h : Heap) (lo : Nat) :
  (run lib).fn 147 [v,.int .i64 k] h lo = some (.lst 1 (ints (grp (a * k))),h) := by
 obtain ⟨v',f1,f2,f3,f4,f5⟩ := PureSl_frz hv
 have da := dig_grp a
 have hz : ∀ i,(grp a).length ≤ i → (grp a).getD i 0 * (k : Int) = 0 := fun i hi => by rw [getD_out (by omega),Int.zero_mul]
 have hg : ∀ i,-9999 ≤ (grp a).getD i 0 * (k : Int) ∧ (grp a).getD i 0 * (k : Int) ≤ 100000000 := fun i => by
  have g1 := getD_dig da i
  have h2 : 0 ≤ (grp a).getD i 0 * (k : Int) := Int.mul_nonneg g1.1 (by omega)
  have h3 : (grp a).getD i 0 * (k : Int) ≤ 9999 * 10000 := Int.mul_le_mul g1.2 (by omega) (by omega) (by omega)
  omega
 have fo := fold_run (f := 176) (caps := [.cptr [v'],.cptr [.int .i64 k]]) (g := fun i => (grp a).getD i 0 * (k : Int)) (n := (grp a).length) (by omega) (by omega)
  (fun i h lo hi => by1_run f4 (by omega) da k (by omega) i h lo hi) hg
  (fold_end hg hz _ 0 0 (by omega) (by omega) (fun _ => by omega) (fun h => by omega) (by
   rw [gs_mul,gs_getD (grp a) _ _ (by omega),List.drop_zero,gv_grp,Int.add_zero]
   exact Int.mul_nonneg (by omega) (by omega)))
 have hp := by_ok da (k := (k : Int)) (by omega)
 rw [gv_grp] at hp
 have e0 : ((a : Int) * k).toNat = a * k := by rw [← Int.natCast_mul]; exact Int.toNat_natCast _
 rw [e0] at hp
 have hFl := foldS_len (fun i => (grp a).getD i 0 * (k : Int)) (grp a).length ((grp a).length + 3) 0 0
 generalize foldS (fun i => (grp a).getD i 0 * (k : Int)) (grp a).length ((grp a).length + 3) 0 0 = F at *
 have ht := trim_run (l := F) (by omega)
 rw [hp] at ht
 have s1 := lenv_sl (f4.sl []).len
 simp only [ints_len] at s1
 rw [run_closed (x := x147) rfl rfl rfl rfl]
 simp (maxSteps := 1000000) (disch := omega) only [go_sem,x147,f1,f2,f3,f5,s1,fo,ht,bck_lst]
theorem isnan_run (n : Int) (h : Heap) (lo : Nat) : (run lib).fn 178 [.int .i64 n] h lo = some (.bool false,h) := by
 rw [run_closed (x := x178) rfl rfl rfl rfl]
 simp (maxSteps := 1000000) (disch := omega) only [go_sem,x178,ne_eq,not_true_eq_false,decide_false]
theorem cmpc_run (a b : Int) (h : Heap) (lo : Nat) : (run lib).fn 156 [.int .i64 a,.int .i64 b] h lo = some (.int .i64 (cmpN a b),h) := by
 rw [run_closed (x := x156) rfl rfl rfl rfl]
 unfold cmpN
 by_cases h1 : a < b
 ·rw [if_pos h1]
  simp (maxSteps := 1000000) (disch := omega) only [go_sem,x156,isnan_run,h1]
 ·rw [if_neg h1]
  by_cases h2 : a = b
  ·rw [if_pos h2]
   have h3 : ¬ b < a := by omega
   simp (maxSteps := 1000000) (disch := omega) only [go_sem,x156,isnan_run,h1,h3]
  ·rw [if_neg h2]
   have h3 : b < a := by omega
   simp (maxSteps := 1000000) (disch := omega) only [go_sem,x156,isnan_run,h1,h3]
end Go.VI.Dump
namespace Go.VI.Dump
open Go.VI.Num
def backF {σ : Type} (Y : σ → Nat → Bool × σ) : Nat → σ → σ
 | 0,s => s
 | k + 1,s => if (Y s k).1 then backF Y k (Y s k).2 else (Y s k).2
section
variable {σ : Type} {H : σ → Heap} {nb lo id : Nat} {Y : σ → Nat → Bool × σ} {Iv : Nat → σ → Prop}
theorem back_loop {v : AV} {l : List Int} (hv : PureSl 1 v (ints l)) (hl : l.length ≤ 1000000)
  (hI : ∀ k s,k < l.length → Iv (k + 1) s → (Y s k).1 = true → Iv k (Y s k).2)
  (hy : ∀ k s (hk : k < l.length),Iv (k + 1) s → yieldv (run lib) ⟨lo,nb,0,none⟩ id 1 [.int .i64 k,.int .i64 l[k]] (H s) = some (.bool (Y s k).1,H (Y s k).2)) :
  ∀ (k : Nat) (j : Int) (s : σ),j = (k : Int) - 1 → k ≤ l.length → Iv k s →
  ∃ e,(e = .exit 0 ∨ e = .ret) ∧ runC lib ⟨lo,nb,0,none⟩ (.loop b175_0) ([(0,.yld id 1),(1,.cptr [v]),(3,.int .i64 j)],H s) = some (e,([],H (backF Y k s))) := by
 intro k
 induction k with
 | zero =>
  intro j s hj hk hi
  subst hj
  refine ⟨.exit 0,.inl rfl, ?_⟩
  have c1 : ¬ (0 : Int) ≤ -1 := by omega
  rw [w_loop]
  simp only [backF]
  simp (maxSteps := 1000000) (disch := omega) only [go_sem,c1,Int.zero_sub,Int.reduceNeg]
 | succ k ih =>
  intro j s hj hk hi
  obtain rfl : j = (k : Int) := by omega
  have c1 : (0 : Int) ≤ (k : Int) := by omega
  have e3 : sidx 1 v (.int .i64 k) = some k := by rw [sidx_sl (hv.sl (H s)) (by omega) (by simp; omega)]; simp
  have e4 := fun off H => pc_iptr (off := off) ((hv.sl H).elems0) (show k < (ints l).length by simp; omega)
  simp only [ints_get] at e4
  have y := hy k s (by omega) hi
  have hI' := hI k s (by omega) hi
  simp only [backF]
  generalize Y s k = p at *
  obtain ⟨r,s'⟩ := p
  simp only [] at y hI' ⊢
  cases r with
  | true =>
   obtain ⟨e,h1,h2⟩ := ih ((k : Int) - 1) s' rfl (by omega) (hI' rfl)
   refine ⟨e,h1, ?_⟩
   rw [w_loop]
   simp only [if_true]
   simp (maxSteps := 1000000) (disch := omega) only [go_sem,c1,e3,e4,y,h2]
  | false =>
   refine ⟨.ret,.inr rfl, ?_⟩
   rw [w_loop]
   simp only [Bool.false_eq_true,if_false]
   simp (maxSteps := 1000000) (disch := omega) only [go_sem,c1,e3,e4,y]
theorem back_run {v : AV} {l : List Int} (hv : PureSl 1 v (ints l)) (hl : l.length ≤ 1000000) (hlen : ∀ s,(H s).length = nb) (hlo : lo ≤ nb)
  (hI : ∀ k s,k < l.length → Iv (k + 1) s → (Y s k).1 = true → Iv k (Y s k).2)
  (hy : ∀ k s (hk : k < l.length),Iv (k + 1) s → yieldv (run lib) ⟨lo,nb,0,none⟩ id 1 [.int .i64 k,.int .i64 l[k]] (H s) = some (.bool (Y s k).1,H (Y s k).2)) (s : σ) (hi : Iv l.length s) :
  (run lib).fn 175 [.yld id 1,.cptr [v]] (H s) lo = some (.tuple [],H (backF Y l.length s)) := by
 obtain ⟨e,h1,h2⟩ := back_loop hv hl hI hy l.length ((l.length : Int) - 1) s rfl (Nat.le_refl _) hi
 have s1 := lenv_sl (hv.sl []).len
 simp only [ints_len] at s1
 rw [run_open (x := x175) rfl rfl rfl rfl (by rw [hlen]; exact hlo)]
 have hr : ∀ (H : Heap),H ++ List.replicate x175.ns (0,Blk.dead) = H := fun H => by simp [x175]
 have ht : ∀ s',(H s').take (H s).length = H s' := fun s' => by rw [hlen s,← hlen s',List.take_length]
 rw [hr]
 rw [← hlen s] at h2
 rcases h1 with rfl | rfl
 ·simp (maxSteps := 1000000) (disch := omega) only [go_sem,x175,s1,h2,ht]
 ·simp (maxSteps := 1000000) (disch := omega) only [go_sem,x175,s1,h2,ht]
end
theorem PureSl_frz2 {z : Nat} {v : AV} {es : List AV} (p : PureSl z v es) : ∃ v',(∀ b k h,frz b k v h = some (v',h)) ∧ (∀ b k h,frz b k v' h = some (v',h)) ∧ v.val = true ∧ v'.val = true ∧ PureSl z v' es ∧ v'.cells = [v'] := by
 rcases p with ⟨rfl,rfl⟩ | ⟨z',rfl | rfl,hz⟩
 ·exact ⟨.lst 0 [],fun b k h => by simp [VI.frz],fun b k h => by simp [VI.frz],rfl,rfl,.inr ⟨0,.inl rfl,.inr rfl⟩,rfl⟩
 ·exact ⟨.lst z' es,fun b k h => by simp [VI.frz],fun b k h => by simp [VI.frz],rfl,rfl,.inr ⟨z',.inl rfl,hz⟩,rfl⟩
 ·exact ⟨.lsf z' es,fun b k h => by simp [VI.frz],fun b k h => by simp [VI.frz],rfl,rfl,.inr ⟨z',.inr rfl,hz⟩,rfl⟩
theorem backward_run (v v' : AV) (hf : ∀ b k h,frz b k v h = some (v',h)) (hf' : ∀ b k h,frz b k v' h = some (v',h)) (hv : v.val = true) (hc : v'.cells = [v']) (h : Heap) (lo : Nat) : (run lib).fn 145 [v] h lo = some (.fn 175 [.cptr [v']],h) := by
 rw [run_closed (x := x145) rfl rfl rfl rfl]
 simp (maxSteps := 1000000) (disch := omega) only [go_sem,x145,hf,hf',hv,hc]
end Go.VI.Dump
namespace Go.VI.Dump
open Go.VI.Num
def cmpY (l m : List Int) (s : Option Int) (k : Nat) : Bool × Option Int := if l.getD k 0 = m.getD k 0 then (true,s) else (false,some (cmpN (l.getD k 0) (m.getD k 0)))
theorem back_cmp (l m : List Int) : ∀ k,(match backF (cmpY l m) k none with | none => cmpK l m k = 0 | some c => cmpK l m k = c)
 | 0 => rfl
 | k + 1 => by
  have ih := back_cmp l m k
  simp only [backF,cmpY,cmpK]
  by_cases c : l.getD k 0 = m.getD k 0
  ·simp only [c,if_true]; exact ih
  ·simp only [c,if_false,Bool.false_eq_true]
   unfold cmpN
   by_cases c2 : l.getD k 0 < m.getD k 0
   ·rw [if_pos c2,if_pos c2]
   ·rw [if_neg c2,if_neg c2,if_neg c]
def cmpE (h : Heap) (v u : AV) : Env := [(3,.cptr [u]),(4,.bptr (h.length + 1) 1 0),(18,.fn 175 [.cptr [v]])]
def cmpH (h : Heap) (v u : AV) (s : Option Int) : Heap := h ++ [(1,.rcd ⟨9,h.length,h.length,2,cmpE h v u⟩ (match s with | none => .ready | some _ => .done .ret)),(1,.box [.int .i64 (s.getD 0)])]
theorem cmp_yield {v u : AV} {l m : List Int} (hu : PureSl 1 u (ints m)) (hl : l.length = m.length) (hm : m.length ≤ 1000000) (h : Heap) (k : Nat) (hk : k < l.length) (lo : Nat) (hlo : lo ≤ h.length) :
  yieldv (run lib) ⟨lo,h.length + 2,0,none⟩ (h.length + 0) 1 [.int .i64 k,.int .i64 l[k]] (cmpH h v u none) = some (.bool (cmpY l m none k).1,cmpH h v u (cmpY l m none k).2) := by
 obtain ⟨D,hD⟩ : ∃ D : Rcd,D = ⟨9,h.length,h.length,2,cmpE h v u⟩ := ⟨_,rfl⟩
 have gl : l.getD k 0 = l[k] := by rw [List.getD_eq_getElem?_getD,List.getElem?_eq_getElem hk]; rfl
 have gm : m.getD k 0 = m[k] := by rw [List.getD_eq_getElem?_getD,List.getElem?_eq_getElem (by omega)]; rfl
 have e3 : sidx 1 u (.int .i64 k) = some k := by rw [sidx_sl (hu.sl []) (by omega) (by simp; omega)]; simp
 have e4 := fun off H => pc_iptr (off := off) ((hu.sl H).elems0) (show k < (ints m).length by simp; omega)
 simp only [ints_get] at e4
 simp only [cmpY,gl,gm]
 generalize l[k] = x at *
 generalize m[k] = y at *
 simp only [cmpH,← hD]
 have ha : runC lib ⟨h.length,h.length,2,some (h.length + 0,1)⟩ r9.asg ((r9.ps.zip [.int .i64 k,.int .i64 x]).foldl (fun e p => e.set p.1 p.2) (cmpE h v u),h ++ [(1,.rcd D .ready),(1,.box [.int .i64 0])]) =
   some (.norm,([(3,.cptr [u]),(4,.bptr (h.length + 1) 1 0),(5,.int .i64 k),(6,.int .i64 x)],h ++ [(1,.rcd D .ready),(1,.box [.int .i64 0])])) := by
  simp (maxSteps := 1000000) (disch := omega) only [go_sem,r9,cmpE,List.zip_cons_cons,List.zip_nil_right,List.foldl_cons,List.foldl_nil]
 have hg : (h ++ [(1,Blk.rcd D .ready),(1,.box [.int .i64 0])])[h.length + 0]? = some (1,.rcd ⟨9,h.length,h.length,2,cmpE h v u⟩ .ready) := by rw [get_fr,← hD]; rfl
 by_cases c : x = y
 ·have hb : ∃ env2,runC lib ⟨h.length,h.length,2,some (h.length + 0,1)⟩ r9.body ([(3,.cptr [u]),(4,.bptr (h.length + 1) 1 0),(5,.int .i64 k),(6,.int .i64 x)],(h ++ [(1,Blk.rcd D .ready),(1,Blk.box [.int .i64 0])]).set (h.length + 0) (1,.rcd D .busy)) =
    some (.norm,(env2,h ++ [(1,.rcd D .busy),(1,.box [.int .i64 0])])) := by
   refine ⟨[(3,.cptr [u]),(4,.bptr (h.length + 1) 1 0),(5,.int .i64 k),(6,.int .i64 x),(26,.bool false)], ?_⟩
   subst c
   rw [set_fr]
   simp (maxSteps := 1000000) (disch := omega) only [go_sem,r9,ps_bptr_int,e3,e4,ne_eq,not_true_eq_false]
  obtain ⟨env2,hb⟩ := hb
  have := yield_round (L := lib) (cx := ⟨lo,h.length + 2,0,none⟩) hg hlo (by omega) (by omega) (by simp [AV.closedL,AV.closed]) (x := r9) rfl rfl ha (by rw [get_fr]; rfl) hb (by rw [get_fr]; rfl)
  rw [if_pos c]
  simp only [Option.getD_none]
  rw [this,set_fr]
  rfl
 ·have hb : ∃ env2,runC lib ⟨h.length,h.length,2,some (h.length + 0,1)⟩ r9.body ([(3,.cptr [u]),(4,.bptr (h.length + 1) 1 0),(5,.int .i64 k),(6,.int .i64 x)],(h ++ [(1,Blk.rcd D .ready),(1,Blk.box [.int .i64 0])]).set (h.length + 0) (1,.rcd D .busy)) =
    some (.ret,(env2,h ++ [(1,.rcd D .busy),(1,.box [.int .i64 (cmpN x y)])])) := by
   refine ⟨[], ?_⟩
   rw [set_fr]
   simp (maxSteps := 1000000) (disch := omega) only [go_sem,r9,ps_bptr_int,e3,e4,c,cmpc_run]
  obtain ⟨env2,hb⟩ := hb
  have := yield_round (L := lib) (cx := ⟨lo,h.length + 2,0,none⟩) hg hlo (by omega) (by omega) (by simp [AV.closedL,AV.closed]) (x := r9) rfl rfl ha (by rw [get_fr]; rfl) hb (by rw [get_fr]; rfl)
  rw [if_neg c]
  simp only [Option.getD_none,Option.getD_some]
  rw [this,set_fr]
  rfl
theorem cmp_run {v u : AV} {l m : List Int} (hv : PureSl 1 v (ints l)) (hu : PureSl 1 u (ints m)) (hl : l.length ≤ 1000000) (hm : m.length ≤ 1000000) (h : Heap) (lo : Nat) :
  (run lib).fn 115 [v,u] h lo = some (.int .i64 (cmpL l m),h) := by
 obtain ⟨v',f1,f1',f2,f3,f4,f5⟩ := PureSl_frz2 hv
 obtain ⟨u',g1,g1',g2,g3,g4,g5⟩ := PureSl_frz2 hu
 have s1 := lenv_sl (hv.sl []).len
 have s2 := lenv_sl (g4.sl []).len
 simp only [ints_len] at s1 s2
 unfold cmpL
 by_cases hlen : l.length = m.length
 ·have c1 : (l.length : Int) = m.length := by omega
  have hb := back_run (H := cmpH h v' u') (nb := h.length + 2) (lo := h.length) (id := h.length + 0) (Y := cmpY l m) (Iv := fun _ s => s = none) f4 hl (fun s => by simp [cmpH]) (by omega)
   (fun k s hk hi hy => by
    subst hi
    simp only [cmpY] at hy ⊢
    split at hy
    ·rename_i hc; rw [if_pos hc]
    ·cases hy)
   (fun k s hk hi => by subst hi; exact cmp_yield g4 hlen hm h k hk h.length (Nat.le_refl _)) none rfl
  have hc := back_cmp l m l.length
  rw [if_pos hlen]
  have bw := backward_run v v' f1 f1' f2 f5
  cases hB : backF (cmpY l m) l.length none with
  | none =>
   rw [hB] at hb hc
   simp only [] at hc
   have g3' := w_rfn (L := lib) (lo := h.length) (ns := 2) (s := 0) (g := 9) (it := 175) (v := 0) (caps := [.cptr [v']]) (env := cmpE h v' u') (h := h) (b := .dead) (fr := [(0,.dead),(1,.box [.int .i64 0])])
    (fr' := [(1,.rcd ⟨9,h.length,h.length,2,cmpE h v' u'⟩ .ready),(1,.box [.int .i64 0])]) (f := .t 18) rfl (by omega) rfl hb rfl
   simp only [cmpE,List.set_cons_zero] at g3'
   rw [hc,run_closed (x := x115) rfl rfl rfl rfl]
   simp (maxSteps := 1000000) (disch := omega) only [go_sem,x115,f1,f2,g1,g2,g5,s1,s2,c1,ne_eq,not_true_eq_false,bw,g3']
  | some c =>
   rw [hB] at hb hc
   simp only [] at hc
   have g3' := w_rfn_done (L := lib) (lo := h.length) (ns := 2) (s := 0) (g := 9) (it := 175) (v := 0) (caps := [.cptr [v']]) (env := cmpE h v' u') (h := h) (b := .dead) (fr := [(0,.dead),(1,.box [.int .i64 0])])
    (fr' := [(1,.rcd ⟨9,h.length,h.length,2,cmpE h v' u'⟩ (.done .ret)),(1,.box [.int .i64 c])]) (f := .t 18) rfl (by omega) rfl hb rfl
   simp only [cmpE,List.set_cons_zero] at g3'
   rw [hc,run_closed (x := x115) rfl rfl rfl rfl]
   simp (maxSteps := 1000000) (disch := omega) only [go_sem,x115,f1,f2,g1,g2,g5,s1,s2,c1,ne_eq,not_true_eq_false,bw,g3']
 ·have c1 : ¬ (l.length : Int) = m.length := by omega
  have hc : (if l.length = m.length then cmpK l m l.length else if l.length < m.length then -1 else 1) = cmpN (l.length : Int) (m.length : Int) := by
   rw [if_neg hlen]
   unfold cmpN
   by_cases c2 : l.length < m.length
   ·rw [if_pos c2,if_pos (by omega)]
   ·rw [if_neg c2,if_neg (by omega),if_neg c1]
  rw [hc,run_closed (x := x115) rfl rfl rfl rfl]
  simp (maxSteps := 1000000) (disch := omega) only [go_sem,x115,f1,f2,g1,g2,g5,s1,s2,c1,cmpc_run]
end Go.VI.Dump
namespace Go.VI.Dump
open Go.VI.Num
theorem search_loop {f : Nat} {caps : List AV} {h : Heap} {t n : Nat} (hf : f < 1000) (hn : n ≤ 1000000) (hd : ∀ d : Nat,d < n → (run lib).fn f (.int .i64 d :: caps) h h.length = some (.bool (decide (t ≤ d)),h)) (m : Nat) :
  ∀ i j : Nat,j - i ≤ m → i ≤ min n t → min n t ≤ j → j ≤ n →
  runC lib ⟨h.length,h.length,0,none⟩ (.loop b149_0) ([(1,.fn f caps),(5,.int .i64 i),(6,.int .i64 j)],h) = some (.exit 0,([(5,.int .i64 (min n t : Nat))],h)) := by
 induction m with
 | zero =>
  intro i j h1 h2 h3 h4
  have : i = min n t := by omega
  have c1 : ¬ (i : Int) < j := by omega
  rw [← this,w_loop]
  simp (maxSteps := 1000000) (disch := omega) only [go_sem,c1]
 | succ m ih =>
  intro i j h1 h2 h3 h4
  by_cases c : i < j
  ·have c1 : (i : Int) < j := by omega
   obtain ⟨d,hdd⟩ : ∃ d,d = (i + j) / 2 := ⟨_,rfl⟩
   have e1 : ((i : Int) + j) / 2 = (d : Int) := by omega
   have y := hd d (by omega)
   rw [w_loop]
   by_cases c2 : t ≤ d
   ·rw [decide_eq_true c2] at y
    have k := ih i d (by omega) h2 (by omega) (by omega)
    simp (maxSteps := 1000000) (disch := omega) only [go_sem,c1,e1,hf,y,k]
   ·rw [decide_eq_false c2] at y
    have k := ih (d + 1) j (by omega) (by omega) h3 h4
    rw [cast1] at k
    simp (maxSteps := 1000000) (disch := omega) only [go_sem,c1,e1,hf,y,k]
  ·have : i = min n t := by omega
   have c1 : ¬ (i : Int) < j := by omega
   rw [← this,w_loop]
   simp (maxSteps := 1000000) (disch := omega) only [go_sem,c1]
theorem search_run {f : Nat} {caps : List AV} {h : Heap} {t n : Nat} (hf : f < 1000) (hn : n ≤ 1000000) (hd : ∀ d : Nat,d < n → (run lib).fn f (.int .i64 d :: caps) h h.length = some (.bool (decide (t ≤ d)),h)) (lo : Nat) :
  (run lib).fn 149 [.int .i64 n,.fn f caps] h lo = some (.int .i64 (min n t : Nat),h) := by
 have e := search_loop hf hn hd n 0 n (by omega) (by omega) (by omega) (by omega)
 simp only [Int.natCast_zero] at e
 rw [run_closed (x := x149) rfl rfl rfl rfl]
 simp (maxSteps := 1000000) (disch := omega) only [go_sem,x149,e]
end Go.VI.Dump
namespace Go.VI
theorem mkAt_r {lo ns s : Nat} {p : Nat × Nat} {b : Blk} {h fr : Heap} (hf : b.fits ⟨lo,h.length,ns,some p⟩ = true) : mkAt ⟨lo,h.length,ns,some p⟩ s b (h ++ fr) = mkF s ns b h fr fr[s]? := by
 rw [← mkAt_fr (lo := lo)]
 have : b.fits ⟨lo,h.length,ns,none⟩ = true := by
  cases b with
  | box cs => simp [Blk.fits,Cx.fit]
  | rcd d st => simp [Blk.fits,Cx.fit]
  | _ => rfl
 simp only [mkAt,hf,this]
theorem app_lit {lo ns s z lim v : Nat} {p : Nat × Nat} {h fr : Heap} {b : Blk} {es xs : List AV} (hs : s < ns) (hb : fr[s]? = some (v,b)) (hx : xs ≠ []) (hl : es.length + xs.length ≤ lim) :
  (appv ⟨lo,h.length,ns,some p⟩ s z lim (.lsf z es) xs (h ++ fr)).bind (fun r => frz h.length false r.1 r.2) = some (.lst z (es ++ xs),h ++ fr.set s (v + 1,.dead)) := by
 have hm := mkAt_r (lo := lo) (ns := ns) (s := s) (p := p) (b := .arr z (es ++ xs)) (h := h) (fr := fr) rfl
 rw [hb,mkF_some,if_pos hs] at hm
 have hl' : (es ++ xs).length ≤ lim := by simpa using hl
 simp only [appv,beq_self_eq_true,Bool.true_or,if_true,if_neg hx,if_pos hl',hm,Option.map_some,Option.bind_some]
 have hlt : s < fr.length := (List.getElem?_eq_some_iff.mp hb).1
 have hg : (h ++ fr.set s (v + 1,Blk.arr z (es ++ xs)))[h.length + s]? = some (v + 1,.arr z (es ++ xs)) := by rw [get_fr]; simp [hlt]
 simp [frz,asList0,hg,set_fr]
 rw [← List.length_append,List.take_length]
end Go.VI
namespace Go.VI.Dump
open Go.VI.Num
def outV : Option Nat → AV
 | none => .nilSl
 | some n => .lst 1 (ints (grp n))
def tmY (a : Nat) (m : List Int) (s : Option Nat × Nat) (k : Nat) : Bool × (Option Nat × Nat) := (true,some (10000 * s.1.getD 0 + a * (m.getD k 0).toNat),if s.1.getD 0 = 0 then s.2 else s.2 + 1)
def tmE (h : Heap) (v u : AV) : Env := [(2,.cptr [v]),(4,.nilSl),(5,.bptr (h.length + 2) 1 0),(9,.fn 175 [.cptr [u]])]
def tmH (h : Heap) (v u : AV) (s : Option Nat × Nat) : Heap := h ++ [(1,.rcd ⟨10,h.length,h.length,3,tmE h v u⟩ .ready),(s.2,.dead),(1,.box [outV s.1])]
theorem outV_pure (o : Option Nat) : PureSl 1 (outV o) (ints (grp (o.getD 0))) := by
 cases o with
 | none => exact .inl ⟨rfl,rfl⟩
 | some n => exact .inr ⟨1,.inl rfl,.inl rfl⟩
theorem outV_props (o : Option Nat) : (outV o).val = true ∧ (outV o).cells = [outV o] ∧ (outV o).closed = true := by cases o <;> exact ⟨rfl,rfl,rfl⟩
theorem grp_shift {n : Nat} (h : n ≠ 0) : (0 : Int) :: grp n = grp (10000 * n) := by
 rw [grp_pos (n := 10000 * n) (by omega)]
 have e1 : 10000 * n % 10000 = 0 := by omega
 have e2 : 10000 * n / 10000 = n := by omega
 rw [e1,e2]; rfl
theorem tm_yield {v u : AV} {a : Nat} {m : List Int} (hv : PureSl 1 v (ints (grp a))) (dm : Dig m) (ha : (grp a).length ≤ 20000) (h : Heap) (k : Nat) (hk : k < m.length) (s : Option Nat × Nat) (hs : (grp (s.1.getD 0)).length ≤ 40000) (lo : Nat) (hlo : lo ≤ h.length) :
  yieldv (run lib) ⟨lo,h.length + 3,0,none⟩ (h.length + 0) 1 [.int .i64 k,.int .i64 m[k]] (tmH h v u s) = some (.bool (tmY a m s k).1,tmH h v u (tmY a m s k).2) := by
 obtain ⟨o,w⟩ := s
 obtain ⟨D,hD⟩ : ∃ D : Rcd,D = ⟨10,h.length,h.length,3,tmE h v u⟩ := ⟨_,rfl⟩
 have gm : m.getD k 0 = m[k] := by rw [List.getD_eq_getElem?_getD,List.getElem?_eq_getElem hk]; rfl
 have hx := dm m[k] (List.getElem_mem hk)
 simp only [tmY,gm]
 simp only [] at hs
 generalize m[k] = x at *
 obtain ⟨d,rfl⟩ : ∃ d : Nat,x = d := ⟨x.toNat,by omega⟩
 simp only [tmH,← hD,Int.toNat_natCast]
 obtain ⟨n,hn⟩ : ∃ n,n = o.getD 0 := ⟨_,rfl⟩
 have hp := outV_pure o
 rw [← hn] at hp hs ⊢
 obtain ⟨p1,p2,p3⟩ := outV_props o
 have s1 := lenv_sl (hp.sl []).len
 rw [ints_len] at s1
 generalize outV o = O at *
 have hby := fun H lo => by_run (k := d) hv (by omega) (by omega) H lo
 have hbyl : (grp (a * d)).length ≤ 50000 := by
  have h1 : a * d ≤ 10000 * a := by rw [Nat.mul_comm]; exact Nat.mul_le_mul_right _ (by omega)
  have h2 := grp_len_le h1
  by_cases h0 : a = 0
  ·subst h0; simp [grp_zero]
  ·rw [← grp_shift h0] at h2
   simp at h2; omega
 have ha' : runC lib ⟨h.length,h.length,3,some (h.length + 0,1)⟩ r10.asg ((r10.ps.zip [.int .i64 k,.int .i64 d]).foldl (fun e p => e.set p.1 p.2) (tmE h v u),h ++ [(1,.rcd D .ready),(w,.dead),(1,.box [O])]) =
   some (.norm,([(2,.cptr [v]),(5,.bptr (h.length + 2) 1 0),(7,.int .i64 d)],h ++ [(1,.rcd D .ready),(w,.dead),(1,.box [O])])) := by
  simp (maxSteps := 1000000) (disch := omega) only [go_sem,r10,tmE,List.zip_cons_cons,List.zip_nil_right,List.foldl_cons,List.foldl_nil]
 have hg : (h ++ [(1,Blk.rcd D .ready),(w,.dead),(1,.box [O])])[h.length + 0]? = some (1,.rcd ⟨10,h.length,h.length,3,tmE h v u⟩ .ready) := by rw [get_fr,← hD]; rfl
 have hb : runC lib ⟨h.length,h.length,3,some (h.length + 0,1)⟩ r10.body ([(2,.cptr [v]),(5,.bptr (h.length + 2) 1 0),(7,.int .i64 d)],(h ++ [(1,Blk.rcd D .ready),(w,Blk.dead),(1,Blk.box [O])]).set (h.length + 0) (1,.rcd D .busy)) =
   some (.norm,([],h ++ [(1,.rcd D .busy),(if n = 0 then w else w + 1,.dead),(1,.box [.lst 1 (ints (grp (10000 * n + a * d)))])])) := by
  rw [set_fr]
  have psl : ∀ (es : List AV) (w' : Nat) (O' : AV),pstore ⟨h.length,h.length,3,some (h.length + 0,1)⟩ (h ++ [(1,.rcd D .busy),(w',.dead),(1,.box [O'])]) 1 (.bptr (h.length + 2) 1 0) (.lst 1 es) = some (h ++ [(1,.rcd D .busy),(w',.dead),(1,.box [.lst 1 es])]) := fun es w' O' => by
   rw [ps_bptr_r (Nat.le_refl _) rfl,if_pos ⟨rfl,rfl⟩]
   simp (maxSteps := 1000000) (disch := omega) only [go_sem]
  by_cases h0 : n = 0
  ·have hpl := fun H lo => plus_run (a := n) (b := a * d) hp (.inr ⟨1,.inl rfl,.inl rfl⟩) (by omega) hbyl H lo
   subst h0
   have c1 : ¬ (0 : Int) < ((grp 0).length : Nat) := by simp [grp_zero]
   rw [Nat.zero_add] at hpl
   rw [if_pos rfl,Nat.mul_zero,Nat.zero_add]
   simp (maxSteps := 1000000) (disch := omega) only [go_sem,r10,s1,c1,hby,hpl,psl]
  ·have hne : grp n ≠ [] := fun e => h0 (grp_nil.mp e)
   have c1 : (0 : Int) < ((grp n).length : Nat) := by have := List.length_pos_iff.mpr hne; omega
   have src := fun H : Heap => appSrc_sl (hp.sl H)
   have al := app_lit (lo := h.length) (ns := 3) (s := 1) (z := 1) (lim := 17592186044416) (v := w) (p := (h.length + 0,1)) (h := h) (fr := [(1,.rcd D .busy),(w,.dead),(1,.box [O])]) (b := .dead) (es := [.int .i64 0]) (xs := ints (grp n)) (by omega) rfl (by intro e; exact hne (by simpa [ints] using e)) (by simp; omega)
   have hsh : [AV.int .i64 0] ++ ints (grp n) = ints (grp (10000 * n)) := by rw [← grp_shift h0]; rfl
   rw [hsh] at al
   have hpl := fun H lo => plus_run (v := .lst 1 (ints (grp (10000 * n)))) (a := 10000 * n) (b := a * d) (.inr ⟨1,.inl rfl,.inl rfl⟩) (u := .lst 1 (ints (grp (a * d)))) (.inr ⟨1,.inl rfl,.inl rfl⟩) (by rw [← grp_shift h0]; simp; omega) hbyl H lo
   simp only [List.set_cons_succ,List.set_cons_zero] at al
   rw [if_neg h0]
   simp (maxSteps := 1000000) (disch := omega) only [go_sem,r10,s1,c1,src,al,hby,hpl,psl]
 have := yield_round (L := lib) (cx := ⟨lo,h.length + 3,0,none⟩) hg hlo (by omega) (by omega) (by simp [AV.closedL,AV.closed]) (x := r10) rfl rfl ha' (by rw [get_fr]; rfl) hb (by rw [get_fr]; rfl)
 rw [this,set_fr]
 rfl
end Go.VI.Dump
namespace Go.VI.Dump
open Go.VI.Num
theorem grp_len_pow : ∀ (t n : Nat),n < 10000 ^ t → (grp n).length ≤ t
 | 0,n,h => by
  have : n = 0 := by simp at h; exact h
  subst this; simp [grp_zero]
 | t + 1,n,h => by
  by_cases h0 : n = 0
  ·subst h0; simp [grp_zero]
  ·rw [Nat.pow_succ,Nat.mul_comm] at h
   have := grp_len_pow t (n / 10000) (Nat.div_lt_of_lt_mul h)
   rw [grp_pos h0,List.length_cons]; omega
theorem grp_lt_pow (n : Nat) : n < 10000 ^ (grp n).length := by
 have h := gv_lt (dig_grp n)
 rw [gv_grp] at h
 have e : ((10000 ^ (grp n).length : Nat) : Int) = (10000 : Int) ^ (grp n).length := by rw [Int.natCast_pow]; rfl
 rw [← e] at h
 exact Int.ofNat_lt.mp h
theorem grp_len_mul (a b : Nat) : (grp (a * b)).length ≤ (grp a).length + (grp b).length := by
 refine grp_len_pow _ _ ?_
 rw [Nat.pow_add]
 exact Nat.mul_lt_mul'' (grp_lt_pow a) (grp_lt_pow b)
theorem back_inv {σ : Type} {Y : σ → Nat → Bool × σ} {Iv : Nat → σ → Prop} {n : Nat} (hY : ∀ s k,(Y s k).1 = true) (hI : ∀ k s,k < n → Iv (k + 1) s → Iv k (Y s k).2) : ∀ k s,k ≤ n → Iv k s → Iv 0 (backF Y k s)
 | 0,s,_,h => h
 | k + 1,s,hk,h => by
  simp only [backF,hY,if_true]
  exact back_inv hY hI k _ (by omega) (hI k s (by omega) h)
def tmI (a : Nat) (m : List Int) (k : Nat) (s : Option Nat × Nat) : Prop := s.1.getD 0 = a * (gv (m.drop k)).toNat ∧ (k < m.length → s.1 ≠ none) ∧ (k = m.length → s.1 = none)
theorem tmI_step {a : Nat} {m : List Int} (dm : Dig m) (k : Nat) (s : Option Nat × Nat) (hk : k < m.length) (hi : tmI a m (k + 1) s) : tmI a m k (tmY a m s k).2 := by
 obtain ⟨h1,_,_⟩ := hi
 have gm : m.getD k 0 = m[k] := by rw [List.getD_eq_getElem?_getD,List.getElem?_eq_getElem hk]; rfl
 have hx := dm m[k] (List.getElem_mem hk)
 have hd : Dig (m.drop (k + 1)) := fun x hx => dm x (List.mem_of_mem_drop hx)
 have hg := gv_nn hd
 refine ⟨?_,fun _ => by simp [tmY],fun h => by omega⟩
 simp only [tmY,gm,h1,Option.getD_some]
 rw [List.drop_eq_getElem_cons hk,gv]
 have e : (m[k] + 10000 * gv (m.drop (k + 1))).toNat = m[k].toNat + 10000 * (gv (m.drop (k + 1))).toNat := by omega
 rw [e,Nat.mul_add,Nat.add_comm,← Nat.mul_assoc,← Nat.mul_assoc,Nat.mul_comm 10000 a]
theorem tmI_len {a b : Nat} {k : Nat} {s : Option Nat × Nat} (ha : (grp a).length ≤ 20000) (hb : (grp b).length ≤ 20000) (hi : tmI a (grp b) k s) : (grp (s.1.getD 0)).length ≤ 40000 := by
 rw [hi.1]
 have h1 := grp_len_mul a (gv ((grp b).drop k)).toNat
 have hd : Dig ((grp b).drop k) := fun x hx => dig_grp b x (List.mem_of_mem_drop hx)
 have h2 : (gv ((grp b).drop k)).toNat < 10000 ^ ((grp b).drop k).length := by
  have h := gv_lt hd
  have e : ((10000 ^ ((grp b).drop k).length : Nat) : Int) = (10000 : Int) ^ ((grp b).drop k).length := by rw [Int.natCast_pow]; rfl
  rw [← e] at h
  have := gv_nn hd
  generalize 10000 ^ ((grp b).drop k).length = X at *
  omega
 have h3 := grp_len_pow _ _ h2
 have h4 : ((grp b).drop k).length ≤ (grp b).length := by simp
 omega
theorem times_run {v u : AV} {a b : Nat} (hv : PureSl 1 v (ints (grp a))) (hu : PureSl 1 u (ints (grp b))) (ha : (grp a).length ≤ 20000) (hb : (grp b).length ≤ 20000) (h : Heap) (lo : Nat) :
  (run lib).fn 181 [v,u] h lo = some (if b = 0 then .own 0 [] else .lst 1 (ints (grp (a * b))),h) := by
 obtain ⟨v',f1,f1',f2,f3,f4,f5⟩ := PureSl_frz2 hv
 obtain ⟨u',g1,g1',g2,g3,g4,g5⟩ := PureSl_frz2 hu
 have dm := dig_grp b
 have i0 : tmI a (grp b) (grp b).length (none,0) := ⟨by simp [gv],fun h => by omega,fun _ => rfl⟩
 have hbk := back_run (H := tmH h v' u') (nb := h.length + 3) (lo := h.length) (id := h.length + 0) (Y := tmY a (grp b)) (Iv := tmI a (grp b)) g4 (by omega) (fun s => by simp [tmH]) (by omega)
  (fun k s hk hi _ => tmI_step dm k s hk hi) (fun k s hk hi => tm_yield f4 dm ha h k hk s (tmI_len ha hb hi) h.length (Nat.le_refl _)) (none,0) i0
 have hfin := back_inv (Iv := tmI a (grp b)) (fun s k => rfl) (fun k s hk hi => tmI_step dm k s hk hi) (grp b).length (none,0) (Nat.le_refl _) i0
 obtain ⟨s',hs'⟩ : ∃ s',s' = backF (tmY a (grp b)) (grp b).length (none,0) := ⟨_,rfl⟩
 rw [← hs'] at hbk hfin
 clear hs'
 obtain ⟨o,w⟩ := s'
 have e1 := hfin.1
 simp only [List.drop_zero,gv_grp,Int.toNat_natCast] at e1
 have bw := backward_run u u' g1 g1' g2 g5
 have g3' := w_rfn (L := lib) (lo := h.length) (ns := 3) (s := 0) (g := 10) (it := 175) (v := 0) (caps := [.cptr [u']]) (env := tmE h v' u') (h := h) (b := .dead) (fr := [(0,.dead),(0,.dead),(1,.box [.nilSl])])
  (fr' := [(1,.rcd ⟨10,h.length,h.length,3,tmE h v' u'⟩ .ready),(w,.dead),(1,.box [outV o])]) (f := .t 9) rfl (by omega) rfl hbk rfl
 simp only [tmE,List.set_cons_zero] at g3'
 rw [run_closed (x := x181) rfl rfl rfl rfl]
 by_cases h0 : b = 0
 ·subst h0
  have ho : o = none := hfin.2.2 rfl
  subst ho
  simp only [outV] at g3'
  rw [if_pos rfl]
  simp (maxSteps := 1000000) (disch := omega) only [go_sem,x181,f1,f2,f5,g2,bw,g3']
 ·have hne : grp b ≠ [] := fun e => h0 (grp_nil.mp e)
  have ho : o ≠ none := hfin.2.1 (List.length_pos_iff.mpr hne)
  obtain ⟨n,rfl⟩ := Option.ne_none_iff_exists'.mp ho
  simp only [Option.getD_some] at e1
  subst e1
  simp only [outV] at g3'
  rw [if_neg h0]
  simp (maxSteps := 1000000) (disch := omega) only [go_sem,x181,f1,f2,f5,g2,bw,g3']
end Go.VI.Dump
namespace Go.VI.Dump
open Go.VI.Num
theorem cmpN_gt (a b : Int) : (0 < cmpN a b) ↔ b < a := by
 unfold cmpN
 by_cases h1 : a < b
 ·rw [if_pos h1]; omega
 ·rw [if_neg h1]
  by_cases h2 : a = b
  ·rw [if_pos h2]; omega
  ·rw [if_neg h2]; omega
theorem over1_run {u r : AV} {m n : Nat} (hm0 : m ≠ 0) (hu : PureSl 1 u (ints (grp m))) (hr : PureSl 1 r (ints (grp n))) (hm : (grp m).length ≤ 20000) (hn : (grp n).length ≤ 20000) (h : Heap) (i1 v1 i2 v2 : Nat)
  (e1 : h[i1]? = some (v1,.box [.fn (1000 + 147) [u]])) (e2 : h[i2]? = some (v2,.box [r])) (d : Nat) (hd : d < 9999) (lo : Nat) :
  (run lib).fn 148 [.int .i64 d,.bptr i1 v1 0,.bptr i2 v2 0] h lo = some (.bool (decide (n / m ≤ d)),h) := by
 have c1 : pcells h (.bptr i1 v1 0) = some [.fn (1000 + 147) [u]] := by simp [pcells,e1]
 have c2 : pcells h (.bptr i2 v2 0) = some [r] := by simp [pcells,e2]
 have b := fun H lo => by_run (k := d + 1) hu (by omega) (by omega) H lo
 rw [cast1] at b
 have hl : (grp (m * (d + 1))).length ≤ 1000000 := by
  have h1 := grp_len_mul m (d + 1)
  have h2 := grp_len_pow 1 (d + 1) (by omega)
  omega
 have k := fun H lo => cmp_run (v := .lst 1 (ints (grp (m * (d + 1))))) (l := grp (m * (d + 1))) (.inr ⟨1,.inl rfl,.inl rfl⟩) hr hl (by omega) H lo
 rw [cmpL_grp] at k
 have hdec : decide (0 < cmpN ((m * (d + 1) : Nat) : Int) (n : Int)) = decide (n / m ≤ d) := by
  rw [decide_eq_decide,cmpN_gt]
  have hpos : 0 < m := by omega
  have h1 : n / m < d + 1 ↔ n < (d + 1) * m := Nat.div_lt_iff_lt_mul hpos
  rw [Nat.mul_comm] at h1
  omega
 rw [run_closed (x := x148) rfl rfl rfl rfl]
 simp (maxSteps := 1000000) (disch := omega) only [go_sem,x148,c1,c2,b,k,hdec]
end Go.VI.Dump
namespace Go.VI.Dump
open Go.VI.Num
theorem trim1_run (d : Nat) (hd : d ≤ 9999) : ∃ X : AV,PureSl 1 X (ints (grp d)) ∧ X.closed = true ∧ X.val = true ∧ X.cells = [X] ∧ ∀ h lo,(run lib).fn 146 [.lsf 1 [.int .i64 d]] h lo = some (X,h) := by
 have s1 : lenv false (.lsf 1 [.int .i64 d]) = some (.int .i64 1) := rfl
 have e3 : sidx 1 (.lsf 1 [.int .i64 d]) (.int .i64 0) = some 0 := rfl
 have e4 : ∀ off H,pcells H (.iptr (.lsf 1 [.int .i64 d]) 0 off) = some ([AV.int .i64 d].drop off) := fun off H => rfl
 by_cases h0 : d = 0
 ·subst h0
  have hs : slicev (some 1) (.lsf 1 [.int .i64 ((0 : Nat) : Int)]) none (some (.int .i64 0)) = some (.lst 1 []) := rfl
  refine ⟨.lst 1 [],.inr ⟨1,.inl rfl,.inl rfl⟩,rfl,rfl,rfl,fun h lo => ?_⟩
  have t := trim_loop (l := []) (by simp) ⟨h.length,h.length,0,none⟩ h 0 (Nat.le_refl _)
  simp only [List.take_nil,ints,List.map_nil] at t
  have ez : ((0 : Nat) : Int) = 0 := rfl
  rw [ez] at s1 e3 e4 hs ⊢
  have w : runC lib ⟨h.length,h.length,0,none⟩ (.loop b146_0) ([(0,.lsf 1 [.int .i64 0])],h) = some (.exit 0,([(0,.lst 1 [])],h)) := by
   rw [w_loop]
   simp (maxSteps := 1000000) (disch := omega) only [go_sem,s1,e3,e4,hs,t]
  rw [run_closed (x := x146) rfl rfl rfl rfl]
  simp (maxSteps := 1000000) (disch := omega) only [go_sem,x146,w]
 ·have hg : grp d = [(d : Int)] := by
   rw [grp_pos h0,Nat.mod_eq_of_lt (by omega),show d / 10000 = 0 by omega]; rfl
  have c : ¬ (d : Int) = 0 := by omega
  refine ⟨.lsf 1 [.int .i64 d],by rw [hg]; exact .inr ⟨1,.inr rfl,.inl rfl⟩,rfl,rfl,rfl,fun h lo => ?_⟩
  have w : runC lib ⟨h.length,h.length,0,none⟩ (.loop b146_0) ([(0,.lsf 1 [.int .i64 d])],h) = some (.exit 0,([(0,.lsf 1 [.int .i64 d])],h)) := by
   rw [w_loop]
   simp (maxSteps := 1000000) (disch := omega) only [go_sem,s1,e3,e4,c]
  rw [run_closed (x := x146) rfl rfl rfl rfl]
  have hg2 : giveRes h.length (.lsf 1 [.int .i64 d]) h = some (.lsf 1 [.int .i64 d]) := rfl
  simp (maxSteps := 1000000) (disch := omega) only [go_sem,x146,w,hg2,Option.map_some]
end Go.VI.Dump
namespace Go.VI.Dump
open Go.VI.Num
def ovE (h : Heap) (v u : AV) : Env := [(3,.cptr [u]),(4,.bptr (h.length + 4) 1 0),(5,.bptr (h.length + 5) 1 0),(14,.fn 175 [.cptr [v]])]
structure OvS where
 q : List Int
 R : Nat
 rv : AV
 s1 : Nat × Blk
 w2 : Nat
def ovH (h : Heap) (v u : AV) (N : Nat) (s : OvS) : Heap := h ++ [(1,.rcd ⟨7,h.length,h.length,6,ovE h v u⟩ .ready),s.s1,(s.w2,.dead),(1,.arr 1 (ints s.q)),(1,.box [.ref (h.length + 3) 1 1 0 N N]),(1,.box [s.rv])]
def ovT (u : AV) (m : Nat) (d : Nat) (k : Nat) (s : OvS) : OvS :=
 ⟨s.q.set k ((d + 10000 * s.R) / m : Nat),(d + 10000 * s.R) % m,.lst 1 (ints (grp ((d + 10000 * s.R) % m))),(s.s1.1 + 1,.box [.fn (1000 + 147) [u]]),if s.R = 0 then s.w2 else s.w2 + 1⟩
theorem ov_reg1 {rv : AV} {R d : Nat} (hr : PureSl 1 rv (ints (grp R))) (hR : (grp R).length ≤ 20000) (hd : d ≤ 9999) : ∃ X : AV,PureSl 1 X (ints (grp (d + 10000 * R))) ∧ X.closed = true ∧ X.val = true ∧ X.cells = [X] ∧
  ∀ (h fr : Heap) (w : Nat) (p : Nat × Nat),fr[2]? = some (w,.dead) → ∃ Y : AV,(appv ⟨h.length,h.length,6,some p⟩ (1002 - 1000) 1 17592186044416 (.lsf 1 [.int .i64 d]) (ints (grp R)) (h ++ fr)).bind (fun r => frz h.length false r.1 r.2) = some (Y,h ++ (if R = 0 then fr else fr.set 2 (w + 1,.dead))) ∧
   ∀ H lo,(run lib).fn 146 [Y] H lo = some (X,H) := by
 by_cases h0 : R = 0
 ·subst h0
  obtain ⟨X,x1,x2,x3,x4,x5⟩ := trim1_run d hd
  refine ⟨X,by rw [Nat.mul_zero,Nat.add_zero]; exact x1,x2,x3,x4,fun h fr w p hf => ⟨.lsf 1 [.int .i64 d], ?_,x5⟩⟩
  simp [appv,grp_zero,ints,frz]
 ·have hne : grp R ≠ [] := fun e => h0 (grp_nil.mp e)
  have hdig : Dig ((d : Int) :: grp R) := Dig.cons.mpr ⟨by omega,dig_grp R⟩
  have ht : trimL ((d : Int) :: grp R) = grp (d + 10000 * R) := by
   rw [trimL_eq hdig,gv,gv_grp]
   congr 1
  have hl : ((d : Int) :: grp R).length ≤ 1000000 := by simp; omega
  have t := trim_run hl
  rw [ht] at t
  refine ⟨.lst 1 (ints (grp (d + 10000 * R))),.inr ⟨1,.inl rfl,.inl rfl⟩,rfl,rfl,rfl,fun h fr w p hf => ⟨.lst 1 (ints ((d : Int) :: grp R)), ?_,t⟩⟩
  rw [if_neg h0]
  have := app_lit (lo := h.length) (ns := 6) (s := 2) (z := 1) (lim := 17592186044416) (v := w) (p := p) (h := h) (fr := fr) (b := .dead) (es := [.int .i64 d]) (xs := ints (grp R)) (by omega) hf (by intro e; exact hne (by simpa [ints] using e)) (by simp; omega)
  exact this
end Go.VI.Dump
namespace Go.VI.Dump
open Go.VI.Num
theorem PureSl_weak {z : Nat} {v : AV} {es : List AV} (p : PureSl z v es) : weak v = v := by
 rcases p with ⟨rfl,rfl⟩ | ⟨z',rfl | rfl,hz⟩ <;> rfl
theorem ov_yield {v u : AV} {m : Nat} (hm0 : m ≠ 0) (hu : PureSl 1 u (ints (grp m))) (uc : u.closed = true) (hm : (grp m).length ≤ 15000) (N : Nat) (hN : N ≤ 20000) (h : Heap) (s : OvS) (hq : s.q.length = N) (hr : PureSl 1 s.rv (ints (grp s.R))) (hR : s.R < m) (rv1 : s.rv.val = true) (k : Nat) (hk : k < N) (d : Nat) (hd : d ≤ 9999) (lo : Nat) (hlo : lo ≤ h.length) :
  yieldv (run lib) ⟨lo,h.length + 6,0,none⟩ (h.length + 0) 1 [.int .i64 k,.int .i64 d] (ovH h v u N s) = some (.bool true,ovH h v u N (ovT u m d k s)) := by
 obtain ⟨q,R,rv,s1,w2⟩ := s
 obtain ⟨w1,b1⟩ := s1
 simp only [] at hq hr hR rv1
 obtain ⟨D,hD⟩ : ∃ D : Rcd,D = ⟨7,h.length,h.length,6,ovE h v u⟩ := ⟨_,rfl⟩
 simp only [ovH,ovT,← hD]
 have hRl : (grp R).length ≤ 15000 := Nat.le_trans (grp_len_le (Nat.le_of_lt hR)) hm
 obtain ⟨X,x1,x2,x3,x4,x5⟩ := ov_reg1 (d := d) hr (by omega) hd
 obtain ⟨n,hn⟩ : ∃ n,n = d + 10000 * R := ⟨_,rfl⟩
 rw [← hn] at x1 ⊢
 obtain ⟨t,ht⟩ : ∃ t,t = n / m := ⟨_,rfl⟩
 have ht9 : t ≤ 9999 := by
  have : n < 10000 * m := by omega
  have := Nat.div_lt_of_lt_mul (by rw [Nat.mul_comm]; exact this : n < m * 10000)
  omega
 have hnl : (grp n).length ≤ 15001 := by
  have h1 : n ≤ 10000 * m := by omega
  have h2 := grp_len_le h1
  rw [← grp_shift hm0] at h2
  simp at h2; omega
 have hmt : n - m * t = n % m := by rw [ht]; have := Nat.div_add_mod n m; omega
 rw [← ht]
 obtain ⟨W,hW⟩ : ∃ W,W = if R = 0 then w2 else w2 + 1 := ⟨_,rfl⟩
 have ha' : runC lib ⟨h.length,h.length,6,some (h.length + 0,1)⟩ r7.asg ((r7.ps.zip [.int .i64 k,.int .i64 d]).foldl (fun e p => e.set p.1 p.2) (ovE h v u),h ++ [(1,.rcd D .ready),(w1,b1),(w2,.dead),(1,.arr 1 (ints q)),(1,.box [.ref (h.length + 3) 1 1 0 N N]),(1,.box [rv])]) =
   some (.norm,([(3,.cptr [u]),(4,.bptr (h.length + 4) 1 0),(5,.bptr (h.length + 5) 1 0),(6,.int .i64 k),(7,.int .i64 d)],h ++ [(1,.rcd D .ready),(w1,b1),(w2,.dead),(1,.arr 1 (ints q)),(1,.box [.ref (h.length + 3) 1 1 0 N N]),(1,.box [rv])])) := by
  simp (maxSteps := 1000000) (disch := omega) only [go_sem,r7,ovE,List.zip_cons_cons,List.zip_nil_right,List.foldl_cons,List.foldl_nil]
 have hg : (h ++ [(1,Blk.rcd D .ready),(w1,b1),(w2,.dead),(1,.arr 1 (ints q)),(1,.box [.ref (h.length + 3) 1 1 0 N N]),(1,.box [rv])])[h.length + 0]? = some (1,.rcd ⟨7,h.length,h.length,6,ovE h v u⟩ .ready) := by rw [get_fr,← hD]; rfl
 have hb : runC lib ⟨h.length,h.length,6,some (h.length + 0,1)⟩ r7.body ([(3,.cptr [u]),(4,.bptr (h.length + 4) 1 0),(5,.bptr (h.length + 5) 1 0),(6,.int .i64 k),(7,.int .i64 d)],(h ++ [(1,Blk.rcd D .ready),(w1,b1),(w2,Blk.dead),(1,Blk.arr 1 (ints q)),(1,Blk.box [.ref (h.length + 3) 1 1 0 N N]),(1,Blk.box [rv])]).set (h.length + 0) (1,.rcd D .busy)) =
   some (.norm,([],h ++ [(1,.rcd D .busy),(w1 + 1,.box [.fn (1000 + 147) [u]]),(W,.dead),(1,.arr 1 (ints (q.set k t))),(1,.box [.ref (h.length + 3) 1 1 0 N N]),(1,.box [.lst 1 (ints (grp (n % m)))])])) := by
  rw [set_fr]
  have src := fun H : Heap => appSrc_sl (hr.sl H)
  obtain ⟨Y,y1,y2⟩ := x5 h [(1,.rcd D .busy),(w1,b1),(w2,.dead),(1,.arr 1 (ints q)),(1,.box [.ref (h.length + 3) 1 1 0 N N]),(1,.box [rv])] w2 (h.length + 0,1) rfl
  have y1' : (appv ⟨h.length,h.length,6,some (h.length + 0,1)⟩ (1002 - 1000) 1 17592186044416 (.lsf 1 [.int .i64 d]) (ints (grp R)) (h ++ [(1,.rcd D .busy),(w1,b1),(w2,.dead),(1,.arr 1 (ints q)),(1,.box [.ref (h.length + 3) 1 1 0 N N]),(1,.box [rv])])).bind (fun r => frz h.length false r.1 r.2) = some (Y,h ++ [(1,.rcd D .busy),(w1,b1),(W,.dead),(1,.arr 1 (ints q)),(1,.box [.ref (h.length + 3) 1 1 0 N N]),(1,.box [rv])]) := by
   rw [y1,hW]
   by_cases h0 : R = 0
   ·rw [if_pos h0,if_pos h0]
   ·rw [if_neg h0,if_neg h0]; rfl
  have p1 : pstore ⟨h.length,h.length,6,some (h.length + 0,1)⟩ (h ++ [(1,.rcd D .busy),(w1,b1),(W,.dead),(1,.arr 1 (ints q)),(1,.box [.ref (h.length + 3) 1 1 0 N N]),(1,.box [rv])]) 1 (.bptr (h.length + 5) 1 0) X = some (h ++ [(1,.rcd D .busy),(w1,b1),(W,.dead),(1,.arr 1 (ints q)),(1,.box [.ref (h.length + 3) 1 1 0 N N]),(1,.box [X])]) := by
   rw [ps_bptr_r (Nat.le_refl _) x2,if_pos ⟨by rw [x4]; rfl,x3⟩]
   simp (maxSteps := 1000000) (disch := omega) only [go_sem,x4]
  have p2 : mkAt ⟨h.length,h.length,6,some (h.length + 0,1)⟩ 1 (.box [.nilFn]) (h ++ [(1,.rcd D .busy),(w1,b1),(W,.dead),(1,.arr 1 (ints q)),(1,.box [.ref (h.length + 3) 1 1 0 N N]),(1,.box [X])]) = some (w1 + 1,h ++ [(1,.rcd D .busy),(w1 + 1,.box [.nilFn]),(W,.dead),(1,.arr 1 (ints q)),(1,.box [.ref (h.length + 3) 1 1 0 N N]),(1,.box [X])]) := by
   rw [mkAt_r (by rfl)]
   simp (maxSteps := 1000000) (disch := omega) only [go_sem]
  have p3 : pstore ⟨h.length,h.length,6,some (h.length + 0,1)⟩ (h ++ [(1,.rcd D .busy),(w1 + 1,.box [.nilFn]),(W,.dead),(1,.arr 1 (ints q)),(1,.box [.ref (h.length + 3) 1 1 0 N N]),(1,.box [X])]) 1 (.bptr (h.length + 1) (w1 + 1) 0) (.fn (1000 + 147) [u]) = some (h ++ [(1,.rcd D .busy),(w1 + 1,.box [.fn (1000 + 147) [u]]),(W,.dead),(1,.arr 1 (ints q)),(1,.box [.ref (h.length + 3) 1 1 0 N N]),(1,.box [X])]) := by
   rw [ps_bptr_r (Nat.le_refl _) (by simp [AV.closed,AV.closedL,uc]),if_pos ⟨rfl,rfl⟩]
   simp (maxSteps := 1000000) (disch := omega) only [go_sem]
  have q1 : sidx 1 (.ref (h.length + 3) 1 1 0 N N) (.int .i64 k) = some k := by simp [sidx,zok,slen,idx]; omega
  have sr := search_run (f := 148) (caps := [.bptr (h.length + 1) (w1 + 1) 0,.bptr (h.length + 5) 1 0]) (h := h ++ [(1,.rcd D .busy),(w1 + 1,.box [.fn (1000 + 147) [u]]),(W,.dead),(1,.arr 1 (ints q)),(1,.box [.ref (h.length + 3) 1 1 0 N N]),(1,.box [X])]) (t := t) (n := 9999) (by omega) (by omega)
   (fun d hd => by rw [ht]; exact over1_run hm0 hu x1 (by omega) (by omega) _ _ _ _ _ (by rw [get_fr]; rfl) (by rw [get_fr]; rfl) d hd _)
  rw [Nat.min_eq_right ht9,show ((9999 : Nat) : Int) = 9999 from rfl] at sr
  have p4 := ps_iptr (cx := ⟨h.length,h.length,6,some (h.length + 0,1)⟩) (h := h ++ [(1,.rcd D .busy),(w1 + 1,.box [.fn (1000 + 147) [u]]),(W,.dead),(1,.arr 1 (ints q)),(1,.box [.ref (h.length + 3) 1 1 0 N N]),(1,.box [X])]) (id := h.length + 3) (ver := 1) (o := 0) (len := N) (fill := N) (i := k) (k := .i64) (l := q) (n := (t : Int)) (by rw [get_fr]; rfl) hq (by omega) hk (by simp only []; omega)
  simp only [Nat.zero_add,set_fr,List.set_cons_succ,List.set_cons_zero] at p4
  have so := Sl.refAll (h := h) (fr := [(1,.rcd D .busy),(w1 + 1,.box [.fn (1000 + 147) [u]]),(W,.dead),(1,.arr 1 (ints (q.set k t))),(1,.box [.ref (h.length + 3) 1 1 0 N N]),(1,.box [X])]) (s := 3) (ver := 1) (z := 1) (es := ints (q.set k t)) rfl
  simp only [ints_len,List.length_set,hq] at so
  have q2 := fun off => pc_iptr (off := off) so.elems0 (show k < (ints (q.set k (t : Int))).length by simp; omega)
  simp only [ints_get,List.getElem_set_self] at q2
  have hby := fun H lo => by_run (k := t) hu (by omega) (by omega) H lo
  have hml : (grp (m * t)).length ≤ 50000 := by
   have h1 := grp_len_mul m t
   have h2 := grp_len_pow 1 t (by omega)
   omega
  have hmi := fun H lo => minus_run (a := n) (b := m * t) (u := .lst 1 (ints (grp (m * t)))) x1 (.inr ⟨1,.inl rfl,.inl rfl⟩) (by rw [ht]; exact Nat.mul_div_le n m) (by omega) H lo
  rw [hmt] at hmi
  have p5 : ∀ es : List AV,pstore ⟨h.length,h.length,6,some (h.length + 0,1)⟩ (h ++ [(1,.rcd D .busy),(w1 + 1,.box [.fn (1000 + 147) [u]]),(W,.dead),(1,.arr 1 (ints (q.set k t))),(1,.box [.ref (h.length + 3) 1 1 0 N N]),(1,.box [X])]) 1 (.bptr (h.length + 5) 1 0) (.lst 1 es) = some (h ++ [(1,.rcd D .busy),(w1 + 1,.box [.fn (1000 + 147) [u]]),(W,.dead),(1,.arr 1 (ints (q.set k t))),(1,.box [.ref (h.length + 3) 1 1 0 N N]),(1,.box [.lst 1 es])]) := fun es => by
   rw [ps_bptr_r (Nat.le_refl _) rfl,if_pos ⟨rfl,rfl⟩]
   simp (maxSteps := 1000000) (disch := omega) only [go_sem]
  simp only [ints] at p4 p5 y1' p1 p2 p3 q2 sr hby hmi src ⊢
  have xw := PureSl_weak x1
  have n1 : ¬ h.length = h.length + 4 := by omega
  have n2 : ¬ h.length = h.length + 1 := by omega
  simp (maxSteps := 1000000) (disch := omega) only [go_sem,r7,n1,n2,src,y1',y2,xw,p1,p2,p3,q1,sr,p4,q2,hby,hmi,p5]
 have := yield_round (L := lib) (cx := ⟨lo,h.length + 6,0,none⟩) hg hlo (by omega) (by omega) (by simp [AV.closedL,AV.closed]) (x := r7) rfl rfl ha' (by rw [get_fr]; rfl) hb (by rw [get_fr]; rfl)
 rw [this,set_fr,hW]
 rfl
end Go.VI.Dump
