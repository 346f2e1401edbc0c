/- What the functions on integers compute, part MB. -/
import Derived.Test.YtfpoegnmeoghpaaGreatDoorDumpTab
import Derived.Test.YtfpoegnmeoghpaaGreatDoorVGS
import Derived.Test.YtfpoegnmeoghpaaGreatDoorDumpMA
set_option linter.unusedVariables false
set_option linter.unusedSimpArgs false
namespace Go.VI.Dump
open Go.VI.Num
def ints (l : List Int) : List AV := l.map (.int .i64)
@[simp] theorem ints_len (l : List Int) : (ints l).length = l.length := by simp [ints]
theorem ints_get (l : List Int) (k : Nat) (h : k < (ints l).length) : (ints l)[k] = .int .i64 (l[k]'(by simpa using h)) := by simp [ints]
theorem ints_app (a b : List Int) : ints (a ++ b) = ints a ++ ints b := by simp [ints]
theorem ints_one (x : Int) : ints [x] = [.int .i64 x] := rfl
theorem cast1 (k : Nat) : ((k + 1 : Nat) : Int) = (k : Int) + 1 := by simp
theorem at_run {v : AV} {l : List Int} {h : Heap} (hv : Sl h 1 v (ints l)) (hl : l.length ≤ 1000000) (i : Nat) (hi : i ≤ 1000000) (lo : Nat) : (run lib).fn 152 [v,.int .i64 i] h lo = some (.int .i64 (l.getD i 0),h) := by
 have s3 := lenv_sl hv.len
 rw [ints_len] at s3
 rw [run_closed (x := x152) rfl rfl rfl rfl]
 by_cases c : i < l.length
 ·have c1 : (i : Int) < l.length := by omega
  have e3 : sidx 1 v (.int .i64 i) = some i := by rw [sidx_sl hv (by omega) (by simp; omega)]; simp
  have e4 := fun off => pc_iptr (off := off) hv.elems0 (show i < (ints l).length by simp; omega)
  simp only [ints_get] at e4
  have hg : l.getD i 0 = l[i] := by rw [List.getD_eq_getElem?_getD,List.getElem?_eq_getElem c]; rfl
  rw [hg]
  simp (maxSteps := 1000000) (disch := omega) only [go_sem,x152,s3,c1,e3,e4]
 ·have c1 : ¬ (i : Int) < l.length := by omega
  rw [getD_out (by omega)]
  simp (maxSteps := 1000000) (disch := omega) only [go_sem,x152,s3,c1]
theorem fold_loop {f : Nat} {caps : List AV} {g : Nat → Int} {n : Nat} (hf : f < 1000) (hn : n ≤ 100000) (hd : ∀ (i : Nat) (h : Heap) (lo : Nat),i ≤ 200000 → (run lib).fn f (.int .i64 i :: caps) h lo = some (.int .i64 (g i),h)) (hg : ∀ i,-9999 ≤ g i ∧ g i ≤ 100000000) (h : Heap) (fu : Nat) :
  ∀ (i : Nat) (c : Int) (acc : List Int),i + fu ≤ 200000 → acc.length = i → -1 ≤ c → c ≤ 20000 → foldEnd g n fu i c = true →
  runC lib ⟨h.length,h.length,2,none⟩ (.loop b150_0) ([(0,.int .i64 n),(1,.int .i64 c),(2,.fn f caps),(7,.ref (h.length + 1) 1 1 0 acc.length acc.length),(8,.int .i64 i)],h ++ [(0,.dead),(1,.arr 1 (ints acc))]) =
   some (.exit 0,([(7,.ref (h.length + 1) 1 1 0 (acc ++ foldS g n fu i c).length (acc ++ foldS g n fu i c).length)],h ++ [(0,.dead),(1,.arr 1 (ints (acc ++ foldS g n fu i c)))])) := by
 induction fu with
 | zero =>
  intro i c acc h1 h2 h3 h4 h5
  simp only [foldEnd,decide_eq_true_eq] at h5
  have c1 : ¬ (i : Int) < n := by omega
  have c2 : c = 0 := by omega
  subst c2
  rw [w_loop]
  simp only [foldS,List.append_nil]
  simp (maxSteps := 1000000) (disch := omega) only [go_sem,c1]
 | succ fu ih =>
  intro i c acc h1 h2 h3 h4 h5
  by_cases hst : i < n ∨ c ≠ 0
  ·have hdi := fun h lo => hd i h lo (by omega)
   have hgi := hg i
   have ea := fun x : Int => app_ref (cx := ⟨h.length,h.length,2,none⟩) (s := 0) (z := 1) (lim := 17592186044416) (id := h.length + 1) (ver := 1) (h := h ++ [(0,.dead),(1,.arr 1 (ints acc))]) (es := ints acc) (xs := [.int .i64 x]) (by rw [get_fr]; rfl) (by simp) (by simp; omega)
   simp only [ints_len,set_fr,List.set_cons_succ,List.set_cons_zero,List.length_singleton] at ea
   have key : ∀ (x c' : Int),-1 ≤ c' → c' ≤ 20000 → foldEnd g n fu (i + 1) c' = true → runC lib ⟨h.length,h.length,2,none⟩ (.loop b150_0) ([(0,.int .i64 n),(1,.int .i64 c'),(2,.fn f caps),(7,.ref (h.length + 1) 1 1 0 (acc.length + 1) (acc.length + 1)),(8,.int .i64 ((i : Int) + 1))],h ++ [(0,.dead),(1,.arr 1 (ints acc ++ [.int .i64 x]))]) =
     some (.exit 0,([(7,.ref (h.length + 1) 1 1 0 (acc ++ x :: foldS g n fu (i + 1) c').length (acc ++ x :: foldS g n fu (i + 1) c').length)],h ++ [(0,.dead),(1,.arr 1 (ints (acc ++ x :: foldS g n fu (i + 1) c')))])) := fun x c' k1 k2 k3 => by
    have := ih (i + 1) c' (acc ++ [x]) (by omega) (by simp; omega) k1 k2 k3
    rw [cast1,ints_app,ints_one,List.append_assoc,List.singleton_append] at this
    simpa using this
   have hif : ((i : Int) < n) ∨ (¬ (i : Int) < n ∧ ¬ c = 0) := by omega
   simp only [foldEnd,foldS,hst,if_true] at h5 ⊢
   generalize g i = y at *
   have w1 : IntKind.i64.wrap (y + c) = y + c := wrap_id (by omega) (by omega)
   by_cases c1 : y + c < 0
   ·rw [if_pos c1] at h5 ⊢
    have k := key (y + c + 10000) (-1) (by omega) (by omega) h5
    rw [w_loop]
    rcases hif with c3 | ⟨c3,c4⟩
    ·simp (maxSteps := 1000000) (disch := omega) only [go_sem,c3,hf,hdi,w1,c1,ea,k]
    ·simp (maxSteps := 1000000) (disch := omega) only [go_sem,c3,c4,hf,hdi,w1,c1,ea,k]
   ·rw [if_neg c1] at h5 ⊢
    by_cases c2 : 10000 ≤ y + c
    ·rw [if_pos c2] at h5 ⊢
     have k := key ((y + c) % 10000) ((y + c) / 10000) (by omega) (by omega) h5
     rw [w_loop]
     rcases hif with c3 | ⟨c3,c4⟩
     ·simp (maxSteps := 1000000) (disch := omega) only [go_sem,c3,hf,hdi,w1,c1,c2,ea,k]
     ·simp (maxSteps := 1000000) (disch := omega) only [go_sem,c3,c4,hf,hdi,w1,c1,c2,ea,k]
    ·rw [if_neg c2] at h5 ⊢
     have k := key (y + c) 0 (by omega) (by omega) h5
     rw [w_loop]
     rcases hif with c3 | ⟨c3,c4⟩
     ·simp (maxSteps := 1000000) (disch := omega) only [go_sem,c3,hf,hdi,w1,c1,c2,ea,k]
     ·simp (maxSteps := 1000000) (disch := omega) only [go_sem,c3,c4,hf,hdi,w1,c1,c2,ea,k]
  ·have c1 : ¬ (i : Int) < n := by omega
   have c2 : c = 0 := by omega
   subst c2
   rw [w_loop]
   simp only [foldS,hst,if_false,List.append_nil]
   simp (maxSteps := 1000000) (disch := omega) only [go_sem,c1]
end Go.VI.Dump
namespace Go.VI.Dump
open Go.VI.Num
theorem fold_run {f : Nat} {caps : List AV} {g : Nat → Int} {n : Nat} (hf : f < 1000) (hn : n ≤ 100000) (hd : ∀ (i : Nat) (h : Heap) (lo : Nat),i ≤ 200000 → (run lib).fn f (.int .i64 i :: caps) h lo = some (.int .i64 (g i),h)) (hg : ∀ i,-9999 ≤ g i ∧ g i ≤ 100000000) (he : foldEnd g n (n + 3) 0 0 = true) (h : Heap) (lo : Nat) :
  (run lib).fn 150 [.int .i64 n,.int .i64 0,.fn f caps] h lo = some (.own 1 (ints (foldS g n (n + 3) 0 0)),h) := by
 have e := fold_loop hf hn hd hg h (n + 3) 0 0 [] (by omega) rfl (by omega) (by omega) he
 simp only [List.nil_append,List.length_nil,Int.natCast_zero,ints,List.map_nil] at e
 have hmk := fun hh => mks_ok (h := hh) (cx := ⟨h.length,h.length,2,none⟩) (s := 1) (z := 1) (zero := .int .i64 0) (lim := 17592186044416) (k := .i64) (k' := .i64) (a := 0) (b := (n : Int) + 1) (by omega) (by omega) (by omega)
 have hgv := give_fr (s := 1) (ver := 1) (z := 1) (h := h) (es := ints (foldS g n (n + 3) 0 0)) (fr := [(0,.dead),(1,.arr 1 (ints (foldS g n (n + 3) 0 0)))]) rfl
 simp only [ints,List.length_map] at hgv
 rw [run_closed (x := x150) rfl rfl rfl rfl]
 simp only [ints]
 simp (maxSteps := 1000000) (disch := omega) only [go_sem,x150,hmk,mkr,List.replicate_zero,e,giveRes,hgv,Option.map_some]
theorem plus1_run {v u : AV} {a b : List Int} (hv : PureSl 1 v (ints a)) (hu : PureSl 1 u (ints b)) (ha : a.length ≤ 1000000) (hb : b.length ≤ 1000000) (da : Dig a) (db : Dig b) (i : Nat) (h : Heap) (lo : Nat) (hi : i ≤ 200000) :
  (run lib).fn 151 [.int .i64 i,.cptr [v],.cptr [u]] h lo = some (.int .i64 (a.getD i 0 + b.getD i 0),h) := by
 have e1 := fun H lo => at_run (hv.sl H) ha i (by omega) lo
 have e2 := fun H lo => at_run (hu.sl H) hb i (by omega) lo
 have g1 := getD_dig da i
 have g2 := getD_dig db i
 rw [run_closed (x := x151) rfl rfl rfl rfl]
 generalize a.getD i 0 = x at *
 generalize b.getD i 0 = y at *
 simp (maxSteps := 1000000) (disch := omega) only [go_sem,x151,e1,e2]
theorem minus1_run {v u : AV} {a b : List Int} (hv : PureSl 1 v (ints a)) (hu : PureSl 1 u (ints b)) (ha : a.length ≤ 1000000) (hb : b.length ≤ 1000000) (da : Dig a) (db : Dig b) (i : Nat) (h : Heap) (lo : Nat) (hi : i ≤ 200000) :
  (run lib).fn 153 [.int .i64 i,.cptr [v],.cptr [u]] h lo = some (.int .i64 (a.getD i 0 - b.getD i 0),h) := by
 have e1 := fun H lo => at_run (hv.sl H) ha i (by omega) lo
 have e2 := fun H lo => at_run (hu.sl H) hb i (by omega) lo
 have g1 := getD_dig da i
 have g2 := getD_dig db i
 rw [run_closed (x := x153) rfl rfl rfl rfl]
 generalize a.getD i 0 = x at *
 generalize b.getD i 0 = y at *
 simp (maxSteps := 1000000) (disch := omega) only [go_sem,x153,e1,e2]
theorem by1_run {v : AV} {a : List Int} (hv : PureSl 1 v (ints a)) (ha : a.length ≤ 1000000) (da : Dig a) (k : Int) (hk : 0 ≤ k ∧ k ≤ 10000) (i : Nat) (h : Heap) (lo : Nat) (hi : i ≤ 200000) :
  (run lib).fn 176 [.int .i64 i,.cptr [v],.cptr [.int .i64 k]] h lo = some (.int .i64 (a.getD i 0 * k),h) := by
 have e1 := fun H lo => at_run (hv.sl H) ha i (by omega) lo
 have g1 := getD_dig da i
 have h2 : 0 ≤ a.getD i 0 * k := Int.mul_nonneg g1.1 hk.1
 have h3 : a.getD i 0 * k ≤ 9999 * 10000 := Int.mul_le_mul g1.2 hk.2 hk.1 (by omega)
 rw [run_closed (x := x176) rfl rfl rfl rfl]
 have w1 : IntKind.i64.wrap (a.getD i 0 * k) = a.getD i 0 * k := wrap_id (by omega) (by omega)
 simp (maxSteps := 1000000) (disch := omega) only [go_sem,x176,e1,w1]
theorem trim_loop {l : List Int} (hl : l.length ≤ 1000000) (cx : Cx) (H : Heap) : ∀ k : Nat,k ≤ l.length →
  runC lib cx (.loop b146_0) ([(0,.lst 1 (ints (l.take k)))],H) = some (.exit 0,([(0,.lst 1 (ints (l.take (trimK l k))))],H)) := by
 intro k
 induction k with
 | zero =>
  intro hk
  rw [w_loop]
  have s3 : lenv false (.lst 1 (ints [])) = some (.int .i64 0) := rfl
  simp only [List.take_zero,trimK]
  simp (maxSteps := 1000000) (disch := omega) only [go_sem,s3,Int.lt_irrefl]
 | succ k ih =>
  intro hk
  have hs := Sl.lst H 1 (ints (l.take (k + 1)))
  have s3 := lenv_sl hs.len
  rw [ints_len,List.length_take,Nat.min_eq_left hk,cast1] at s3
  have hlen : (ints (l.take (k + 1))).length = k + 1 := by simp; omega
  have c1 : (0 : Int) < (k : Int) + 1 := by omega
  have e0 : (k : Int) + 1 - 1 = k := by omega
  have e3 : sidx 1 (.lst 1 (ints (l.take (k + 1)))) (.int .i64 k) = some k := by rw [sidx_sl hs (by omega) (by rw [hlen]; omega)]; simp
  have e4 := fun off => pc_iptr (off := off) hs.elems0 (show k < (ints (l.take (k + 1))).length by rw [hlen]; omega)
  simp only [ints_get,List.getElem_take] at e4
  have hg : l.getD k 0 = l[k] := by rw [List.getD_eq_getElem?_getD,List.getElem?_eq_getElem (by omega)]; rfl
  have hsl : slicev (some 1) (.lst 1 (ints (l.take (k + 1)))) none (some (.int .i64 k)) = some (.lst 1 (ints (l.take k))) := by
   have hb : bnd (some (.int .i64 k)) (k + 1) (k + 1) = some k := by rw [bnd_ok (by omega) (by omega)]; simp
   simp only [slicev,zok,beq_self_eq_true,Bool.true_or,if_true,hlen,hb,Option.bind_some]
   simp [bnd,ints,List.take_take]
  have ih' := ih (by omega)
  simp only [trimK,hg]
  rw [w_loop]
  by_cases c2 : l[k] = 0
  ·rw [if_pos c2]
   simp (maxSteps := 1000000) (disch := omega) only [go_sem,s3,c1,e0,e3,e4,c2,hsl,ih']
  ·rw [if_neg c2]
   simp (maxSteps := 1000000) (disch := omega) only [go_sem,s3,c1,e0,e3,e4,c2]
theorem trim_run {l : List Int} (hl : l.length ≤ 1000000) (h : Heap) (lo : Nat) : (run lib).fn 146 [.lst 1 (ints l)] h lo = some (.lst 1 (ints (trimL l)),h) := by
 have e := fun cx H => trim_loop hl cx H l.length (Nat.le_refl _)
 simp only [List.take_length] at e
 rw [run_closed (x := x146) rfl rfl rfl rfl]
 unfold trimL
 simp (maxSteps := 1000000) (disch := omega) only [go_sem,x146,e]
theorem bck_lst (cx : Cx) (z : Nat) (es : List AV) (H : Heap) : bck cx [(0,0)] (some (.lst z es,H)) = some (.lst z es,H) := rfl
theorem foldS_len (g : Nat → Int) (n : Nat) : ∀ (f i : Nat) (c : Int),(foldS g n f i c).length ≤ f
 | 0,_,_ => Nat.le_refl _
 | f + 1,i,c => by
  simp only [foldS]
  split
  ·split
   ·have := foldS_len g n f (i + 1) (-1); simp; omega
   ·split
    ·have := foldS_len g n f (i + 1) ((g i + c) / 10000); simp; omega
    ·have := foldS_len g n f (i + 1) 0; simp; omega
  ·simp
theorem PureSl_frz {z : Nat} {v : AV} {es : List AV} (p : PureSl z v es) : ∃ v',(∀ b k h,frz b k v h = some (v',h)) ∧ v.val = true ∧ v'.val = true ∧ PureSl z v' es ∧ v'.cells = [v'] := by
 rcases p with ⟨rfl,rfl⟩ | ⟨z',rfl | rfl,hz⟩
 ·exact ⟨.lst 0 [],fun b k h => by simp [VI.frz],rfl,rfl,.inr ⟨0,.inl rfl,.inr rfl⟩,rfl⟩
 ·exact ⟨.lst z' es,fun b k h => by simp [VI.frz],rfl,rfl,.inr ⟨z',.inl rfl,hz⟩,rfl⟩
 ·exact ⟨.lsf z' es,fun b k h => by simp [VI.frz],rfl,rfl,.inr ⟨z',.inr rfl,hz⟩,rfl⟩
theorem plus_run {v u : AV} {a b : Nat} (hv : PureSl 1 v (ints (grp a))) (hu : PureSl 1 u (ints (grp b))) (ha : (grp a).length ≤ 50000) (hb : (grp b).length ≤ 50000) (h : Heap) (lo : Nat) :
  (run lib).fn 111 [v,u] h lo = some (.lst 1 (ints (grp (a + b))),h) := by
 obtain ⟨v',f1,f2,f3,f4,f5⟩ := PureSl_frz hv
 obtain ⟨u',g1,g2,g3,g4,g5⟩ := PureSl_frz hu
 have da := dig_grp a
 have db := dig_grp b
 have fo := fold_run (f := 151) (caps := [.cptr [v'],.cptr [u']]) (g := fun i => (grp a).getD i 0 + (grp b).getD i 0) (n := max (grp a).length (grp b).length) (by omega) (by omega)
  (fun i h lo hi => plus1_run f4 g4 (by omega) (by omega) da db i h lo hi) (fun i => by have := getD_dig da i; have := getD_dig db i; omega)
  (fold_end (fun i => by have := getD_dig da i; have := getD_dig db i; omega) (fun i hi => by rw [getD_out (by omega),getD_out (by omega)]; rfl) _ 0 0 (by omega) (by omega) (fun _ => by omega) (fun h => by omega) (by
   rw [gs_add,gs_getD (grp a) _ _ (by omega),gs_getD (grp b) _ _ (by omega)]
   have := gv_nn da; have := gv_nn db; simp only [List.drop_zero]; omega))
 have hp := plus_ok da db
 rw [gv_grp,gv_grp] at hp
 have e0 : ((a : Int) + b).toNat = a + b := by omega
 rw [e0] at hp
 have hFl := foldS_len (fun i => (grp a).getD i 0 + (grp b).getD i 0) (max (grp a).length (grp b).length) (max (grp a).length (grp b).length + 3) 0 0
 generalize foldS (fun i => (grp a).getD i 0 + (grp b).getD i 0) (max (grp a).length (grp b).length) (max (grp a).length (grp b).length + 3) 0 0 = F at *
 have ht := trim_run (l := F) (by omega)
 rw [hp] at ht
 have s1 := lenv_sl (f4.sl []).len
 have s2 := lenv_sl (g4.sl []).len
 simp only [ints_len] at s1 s2
 have em : max ((grp a).length : Int) ((grp b).length : Int) = ((max (grp a).length (grp b).length : Nat) : Int) := by omega
 rw [run_closed (x := x111) rfl rfl rfl rfl]
 simp (maxSteps := 1000000) (disch := omega) only [go_sem,x111,f1,f2,f3,f5,g1,g2,g3,g5,s1,s2,em,fo,ht,bck_lst]
theorem minus_run {v u : AV} {a b : Nat} (hv : PureSl 1 v (ints (grp a))) (hu : PureSl 1 u (ints (grp b))) (hab : b ≤ a) (ha : (grp a).length ≤ 50000) (h : Heap) (lo : Nat) :
  (run lib).fn 113 [v,u] h lo = some (.lst 1 (ints (grp (a - b))),h) := by
 obtain ⟨v',f1,f2,f3,f4,f5⟩ := PureSl_frz hv
 obtain ⟨u',g1,g2,g3,g4,g5⟩ := PureSl_frz hu
 have da := dig_grp a
 have db := dig_grp b
 have hbl := grp_len_le hab
 have hz : ∀ i,(grp a).length ≤ i → (grp a).getD i 0 - (grp b).getD i 0 = 0 := fun i hi => by rw [getD_out (by omega),getD_out (by omega)]; rfl
 have hg : ∀ i,-9999 ≤ (grp a).getD i 0 - (grp b).getD i 0 ∧ (grp a).getD i 0 - (grp b).getD i 0 ≤ 100000000 := fun i => by have := getD_dig da i; have := getD_dig db i; omega
 have fo := fold_run (f := 153) (caps := [.cptr [v'],.cptr [u']]) (g := fun i => (grp a).getD i 0 - (grp b).getD i 0) (n := (grp a).length) (by omega) (by omega)
  (fun i h lo hi => minus1_run f4 g4 (by omega) (by omega) da db i h lo hi) hg
  (fold_end hg hz _ 0 0 (by omega) (by omega) (fun _ => by omega) (fun h => by omega) (by
   rw [gs_sub,gs_getD (grp a) _ _ (by omega),gs_getD (grp b) _ _ (by omega),List.drop_zero,List.drop_zero,gv_grp,gv_grp]; omega))
 have hp := minus_ok da db hbl (by rw [gv_grp,gv_grp]; omega)
 rw [gv_grp,gv_grp] at hp
 have e0 : ((a : Int) - b).toNat = a - b := by omega
 rw [e0] at hp
 have hFl := foldS_len (fun i => (grp a).getD i 0 - (grp b).getD i 0) (grp a).length ((grp a).length + 3) 0 0
 generalize foldS (fun i => (grp a).getD i 0 - (grp b).getD i 0) (grp a).length ((grp a).length + 3) 0 0 = F at *
 have ht := trim_run (l := F) (by omega)
 rw [hp] at ht
 have s1 := lenv_sl (f4.sl []).len
 have s2 := lenv_sl (g4.sl []).len
 simp only [ints_len] at s1 s2
 rw [run_closed (x := x113) rfl rfl rfl rfl]
 simp (maxSteps := 1000000) (disch := omega) only [go_sem,x113,f1,f2,f3,f5,g1,g2,g3,g5,s1,s2,fo,ht,bck_lst]
theorem by_run {v : AV} {a k : Nat} (hv : PureSl 1 v (ints (grp a))) (hk : k ≤ 10000) (ha : (grp a).length ≤ 50000) (h : Heap) (lo : Nat) :
  (run lib).fn 147 [v,.int .i64 k] h lo = some (.lst 1 (ints (grp (a * k))),h) := by
 obtain ⟨v',f1,f2,f3,f4,f5⟩ := PureSl_frz hv
 have da := dig_grp a
 have hz : ∀ i,(grp a).length ≤ i → (grp a).getD i 0 * (k : Int) = 0 := fun i hi => by rw [getD_out (by omega),Int.zero_mul]
 have hg : ∀ i,-9999 ≤ (grp a).getD i 0 * (k : Int) ∧ (grp a).getD i 0 * (k : Int) ≤ 100000000 := fun i => by
  have g1 := getD_dig da i
  have h2 : 0 ≤ (grp a).getD i 0 * (k : Int) := Int.mul_nonneg g1.1 (by omega)
  have h3 : (grp a).getD i 0 * (k : Int) ≤ 9999 * 10000 := Int.mul_le_mul g1.2 (by omega) (by omega) (by omega)
  omega
 have fo := fold_run (f := 176) (caps := [.cptr [v'],.cptr [.int .i64 k]]) (g := fun i => (grp a).getD i 0 * (k : Int)) (n := (grp a).length) (by omega) (by omega)
  (fun i h lo hi => by1_run f4 (by omega) da k (by omega) i h lo hi) hg
  (fold_end hg hz _ 0 0 (by omega) (by omega) (fun _ => by omega) (fun h => by omega) (by
   rw [gs_mul,gs_getD (grp a) _ _ (by omega),List.drop_zero,gv_grp,Int.add_zero]
   exact Int.mul_nonneg (by omega) (by omega)))
 have hp := by_ok da (k := (k : Int)) (by omega)
 rw [gv_grp] at hp
 have e0 : ((a : Int) * k).toNat = a * k := by rw [← Int.natCast_mul]; exact Int.toNat_natCast _
 rw [e0] at hp
 have hFl := foldS_len (fun i => (grp a).getD i 0 * (k : Int)) (grp a).length ((grp a).length + 3) 0 0
 generalize foldS (fun i => (grp a).getD i 0 * (k : Int)) (grp a).length ((grp a).length + 3) 0 0 = F at *
 have ht := trim_run (l := F) (by omega)
 rw [hp] at ht
 have s1 := lenv_sl (f4.sl []).len
 simp only [ints_len] at s1
 rw [run_closed (x := x147) rfl rfl rfl rfl]
 simp (maxSteps := 1000000) (disch := omega) only [go_sem,x147,f1,f2,f3,f5,s1,fo,ht,bck_lst]
theorem isnan_run (n : Int) (h : Heap) (lo : Nat) : (run lib).fn 178 [.int .i64 n] h lo = some (.bool false,h) := by
 rw [run_closed (x := x178) rfl rfl rfl rfl]
 simp (maxSteps := 1000000) (disch := omega) only [go_sem,x178,ne_eq,not_true_eq_false,decide_false]
theorem cmpc_run (a b : Int) (h : Heap) (lo : Nat) : (run lib).fn 156 [.int .i64 a,.int .i64 b] h lo = some (.int .i64 (cmpN a b),h) := by
 rw [run_closed (x := x156) rfl rfl rfl rfl]
 unfold cmpN
 by_cases h1 : a < b
 ·rw [if_pos h1]
  simp (maxSteps := 1000000) (disch := omega) only [go_sem,x156,isnan_run,h1]
 ·rw [if_neg h1]
  by_cases h2 : a = b
  ·rw [if_pos h2]
   have h3 : ¬ b < a := by omega
   simp (maxSteps := 1000000) (disch := omega) only [go_sem,x156,isnan_run,h1,h3]
  ·rw [if_neg h2]
   have h3 : b < a := by omega
   simp (maxSteps := 1000000) (disch := omega) only [go_sem,x156,isnan_run,h1,h3]
end Go.VI.Dump
namespace Go.VI.Dump
open Go.VI.Num
def backF {σ : Type} (Y : σ → Nat → Bool × σ) : Nat → σ → σ
 | 0,s => s
 | k + 1,s => if (Y s k).1 then backF Y k (Y s k).2 else (Y s k).2
section
variable {σ : Type} {H : σ → Heap} {nb lo id : Nat} {Y : σ → Nat → Bool × σ} {Iv : Nat → σ → Prop}
theorem back_loop {v : AV} {l : List Int} (hv : PureSl 1 v (ints l)) (hl : l.length ≤ 1000000)
  (hI : ∀ k s,k < l.length → Iv (k + 1) s → (Y s k).1 = true → Iv k (Y s k).2)
  (hy : ∀ k s (hk : k < l.length),Iv (k + 1) s → yieldv (run lib) ⟨lo,nb,0,none⟩ id 1 [.int .i64 k,.int .i64 l[k]] (H s) = some (.bool (Y s k).1,H (Y s k).2)) :
  ∀ (k : Nat) (j : Int) (s : σ),j = (k : Int) - 1 → k ≤ l.length → Iv k s →
  ∃ e,(e = .exit 0 ∨ e = .ret) ∧ runC lib ⟨lo,nb,0,none⟩ (.loop b175_0) ([(0,.yld id 1),(1,.cptr [v]),(3,.int .i64 j)],H s) = some (e,([],H (backF Y k s))) := by
 intro k
 induction k with
 | zero =>
  intro j s hj hk hi
  subst hj
  refine ⟨.exit 0,.inl rfl, ?_⟩
  have c1 : ¬ (0 : Int) ≤ -1 := by omega
  rw [w_loop]
  simp only [backF]
  simp (maxSteps := 1000000) (disch := omega) only [go_sem,c1,Int.zero_sub,Int.reduceNeg]
 | succ k ih =>
  intro j s hj hk hi
  obtain rfl : j = (k : Int) := by omega
  have c1 : (0 : Int) ≤ (k : Int) := by omega
  have e3 : sidx 1 v (.int .i64 k) = some k := by rw [sidx_sl (hv.sl (H s)) (by omega) (by simp; omega)]; simp
  have e4 := fun off H => pc_iptr (off := off) ((hv.sl H).elems0) (show k < (ints l).length by simp; omega)
  simp only [ints_get] at e4
  have y := hy k s (by omega) hi
  have hI' := hI k s (by omega) hi
  simp only [backF]
  generalize Y s k = p at *
  obtain ⟨r,s'⟩ := p
  simp only [] at y hI' ⊢
  cases r with
  | true =>
   obtain ⟨e,h1,h2⟩ := ih ((k : Int) - 1) s' rfl (by omega) (hI' rfl)
   refine ⟨e,h1, ?_⟩
   rw [w_loop]
   simp only [if_true]
   simp (maxSteps := 1000000) (disch := omega) only [go_sem,c1,e3,e4,y,h2]
  | false =>
   refine ⟨.ret,.inr rfl, ?_⟩
   rw [w_loop]
   simp only [Bool.false_eq_true,if_false]
   simp (maxSteps := 1000000) (disch := omega) only [go_sem,c1,e3,e4,y]
theorem back_run {v : AV} {l : List Int} (hv : PureSl 1 v (ints l)) (hl : l.length ≤ 1000000) (hlen : ∀ s,(H s).length = nb) (hlo : lo ≤ nb)
  (hI : ∀ k s,k < l.length → Iv (k + 1) s → (Y s k).1 = true → Iv k (Y s k).2)
  (hy : ∀ k s (hk : k < l.length),Iv (k + 1) s → yieldv (run lib) ⟨lo,nb,0,none⟩ id 1 [.int .i64 k,.int .i64 l[k]] (H s) = some (.bool (Y s k).1,H (Y s k).2)) (s : σ) (hi : Iv l.length s) :
  (run lib).fn 175 [.yld id 1,.cptr [v]] (H s) lo = some (.tuple [],H (backF Y l.length s)) := by
 obtain ⟨e,h1,h2⟩ := back_loop hv hl hI hy l.length ((l.length : Int) - 1) s rfl (Nat.le_refl _) hi
 have s1 := lenv_sl (hv.sl []).len
 simp only [ints_len] at s1
 rw [run_open (x := x175) rfl rfl rfl rfl (by rw [hlen]; exact hlo)]
 have hr : ∀ (H : Heap),H ++ List.replicate x175.ns (0,Blk.dead) = H := fun H => by simp [x175]
 have ht : ∀ s',(H s').take (H s).length = H s' := fun s' => by rw [hlen s,← hlen s',List.take_length]
 rw [hr]
 rw [← hlen s] at h2
 rcases h1 with rfl | rfl
 ·simp (maxSteps := 1000000) (disch := omega) only [go_sem,x175,s1,h2,ht]
 ·simp (maxSteps := 1000000) (disch := omega) only [go_sem,x175,s1,h2,ht]
end
theorem PureSl_frz2 {z : Nat} {v : AV} {es : List AV} (p : PureSl z v es) : ∃ v',(∀ b k h,frz b k v h = some (v',h)) ∧ (∀ b k h,frz b k v' h = some (v',h)) ∧ v.val = true ∧ v'.val = true ∧ PureSl z v' es ∧ v'.cells = [v'] := by
 rcases p with ⟨rfl,rfl⟩ | ⟨z',rfl | rfl,hz⟩
 ·exact ⟨.lst 0 [],fun b k h => by simp [VI.frz],fun b k h => by simp [VI.frz],rfl,rfl,.inr ⟨0,.inl rfl,.inr rfl⟩,rfl⟩
 ·exact ⟨.lst z' es,fun b k h => by simp [VI.frz],fun b k h => by simp [VI.frz],rfl,rfl,.inr ⟨z',.inl rfl,hz⟩,rfl⟩
 ·exact ⟨.lsf z' es,fun b k h => by simp [VI.frz],fun b k h => by simp [VI.frz],rfl,rfl,.inr ⟨z',.inr rfl,hz⟩,rfl⟩
theorem backward_run (v v' : AV) (hf : ∀ b k h,frz b k v h = some (v',h)) (hf' : ∀ b k h,frz b k v' h = some (v',h)) (hv : v.val = true) (hc : v'.cells = [v']) (h : Heap) (lo : Nat) : (run lib).fn 145 [v] h lo = some (.fn 175 [.cptr [v']],h) := by
 rw [run_closed (x := x145) rfl rfl rfl rfl]
 simp (maxSteps := 1000000) (disch := omega) only [go_sem,x145,hf,hf',hv,hc]
end Go.VI.Dump
namespace Go.VI.Dump
open Go.VI.Num
def cmpY (l m : List Int) (s : Option Int) (k : Nat) : Bool × Option Int := if l.getD k 0 = m.getD k 0 then (true,s) else (false,some (cmpN (l.getD k 0) (m.getD k 0)))
theorem back_cmp (l m : List Int) : ∀ k,(match backF (cmpY l m) k none with | none => cmpK l m k = 0 | some c => cmpK l m k = c)
 | 0 => rfl
 | k + 1 => by
  have ih := back_cmp l m k
  simp only [backF,cmpY,cmpK]
  by_cases c : l.getD k 0 = m.getD k 0
  ·simp only [c,if_true]; exact ih
  ·simp only [c,if_false,Bool.false_eq_true]
   unfold cmpN
   by_cases c2 : l.getD k 0 < m.getD k 0
   ·rw [if_pos c2,if_pos c2]
   ·rw [if_neg c2,if_neg c2,if_neg c]
def cmpE (h : Heap) (v u : AV) : Env := [(3,.cptr [u]),(4,.bptr (h.length + 1) 1 0),(18,.fn 175 [.cptr [v]])]
def cmpH (h : Heap) (v u : AV) (s : Option Int) : Heap := h ++ [(1,.rcd ⟨9,h.length,h.length,2,cmpE h v u⟩ (match s with | none => .ready | some _ => .done .ret)),(1,.box [.int .i64 (s.getD 0)])]
theorem cmp_yield {v u : AV} {l m : List Int} (hu : PureSl 1 u (ints m)) (hl : l.length = m.length) (hm : m.length ≤ 1000000) (h : Heap) (k : Nat) (hk : k < l.length) (lo : Nat) (hlo : lo ≤ h.length) :
  yieldv (run lib) ⟨lo,h.length + 2,0,none⟩ (h.length + 0) 1 [.int .i64 k,.int .i64 l[k]] (cmpH h v u none) = some (.bool (cmpY l m none k).1,cmpH h v u (cmpY l m none k).2) := by
 obtain ⟨D,hD⟩ : ∃ D : Rcd,D = ⟨9,h.length,h.length,2,cmpE h v u⟩ := ⟨_,rfl⟩
 have gl : l.getD k 0 = l[k] := by rw [List.getD_eq_getElem?_getD,List.getElem?_eq_getElem hk]; rfl
 have gm : m.getD k 0 = m[k] := by rw [List.getD_eq_getElem?_getD,List.getElem?_eq_getElem (by omega)]; rfl
 have e3 : sidx 1 u (.int .i64 k) = some k := by rw [sidx_sl (hu.sl []) (by omega) (by simp; omega)]; simp
 have e4 := fun off H => pc_iptr (off := off) ((hu.sl H).elems0) (show k < (ints m).length by simp; omega)
 simp only [ints_get] at e4
 simp only [cmpY,gl,gm]
 generalize l[k] = x at *
 generalize m[k] = y at *
 simp only [cmpH,← hD]
 have ha : runC lib ⟨h.length,h.length,2,some (h.length + 0,1)⟩ r9.asg ((r9.ps.zip [.int .i64 k,.int .i64 x]).foldl (fun e p => e.set p.1 p.2) (cmpE h v u),h ++ [(1,.rcd D .ready),(1,.box [.int .i64 0])]) =
   some (.norm,([(3,.cptr [u]),(4,.bptr (h.length + 1) 1 0),(5,.int .i64 k),(6,.int .i64 x)],h ++ [(1,.rcd D .ready),(1,.box [.int .i64 0])])) := by
  simp (maxSteps := 1000000) (disch := omega) only [go_sem,r9,cmpE,List.zip_cons_cons,List.zip_nil_right,List.foldl_cons,List.foldl_nil]
 have hg : (h ++ [(1,Blk.rcd D .ready),(1,.box [.int .i64 0])])[h.length + 0]? = some (1,.rcd ⟨9,h.length,h.length,2,cmpE h v u⟩ .ready) := by rw [get_fr,← hD]; rfl
 by_cases c : x = y
 ·have hb : ∃ env2,runC lib ⟨h.length,h.length,2,some (h.length + 0,1)⟩ r9.body ([(3,.cptr [u]),(4,.bptr (h.length + 1) 1 0),(5,.int .i64 k),(6,.int .i64 x)],(h ++ [(1,Blk.rcd D .ready),(1,Blk.box [.int .i64 0])]).set (h.length + 0) (1,.rcd D .busy)) =
    some (.norm,(env2,h ++ [(1,.rcd D .busy),(1,.box [.int .i64 0])])) := by
   refine ⟨[(3,.cptr [u]),(4,.bptr (h.length + 1) 1 0),(5,.int .i64 k),(6,.int .i64 x),(26,.bool false)], ?_⟩
   subst c
   rw [set_fr]
   simp (maxSteps := 1000000) (disch := omega) only [go_sem,r9,ps_bptr_int,e3,e4,ne_eq,not_true_eq_false]
  obtain ⟨env2,hb⟩ := hb
  have := yield_round (L := lib) (cx := ⟨lo,h.length + 2,0,none⟩) hg hlo (by omega) (by omega) (by simp [AV.closedL,AV.closed]) (x := r9) rfl rfl ha (by rw [get_fr]; rfl) hb (by rw [get_fr]; rfl)
  rw [if_pos c]
  simp only [Option.getD_none]
  rw [this,set_fr]
  rfl
 ·have hb : ∃ env2,runC lib ⟨h.length,h.length,2,some (h.length + 0,1)⟩ r9.body ([(3,.cptr [u]),(4,.bptr (h.length + 1) 1 0),(5,.int .i64 k),(6,.int .i64 x)],(h ++ [(1,Blk.rcd D .ready),(1,Blk.box [.int .i64 0])]).set (h.length + 0) (1,.rcd D .busy)) =
    some (.ret,(env2,h ++ [(1,.rcd D .busy),(1,.box [.int .i64 (cmpN x y)])])) := by
   refine ⟨[], ?_⟩
   rw [set_fr]
   simp (maxSteps := 1000000) (disch := omega) only [go_sem,r9,ps_bptr_int,e3,e4,c,cmpc_run]
  obtain ⟨env2,hb⟩ := hb
  have := yield_round (L := lib) (cx := ⟨lo,h.length + 2,0,none⟩) hg hlo (by omega) (by omega) (by simp [AV.closedL,AV.closed]) (x := r9) rfl rfl ha (by rw [get_fr]; rfl) hb (by rw [get_fr]; rfl)
  rw [if_neg c]
  simp only [Option.getD_none,Option.getD_some]
  rw [this,set_fr]
  rfl
theorem cmp_run {v u : AV} {l m : List Int} (hv : PureSl 1 v (ints l)) (hu : PureSl 1 u (ints m)) (hl : l.length ≤ 1000000) (hm : m.length ≤ 1000000) (h : Heap) (lo : Nat) :
  (run lib).fn 115 [v,u] h lo = some (.int .i64 (cmpL l m),h) := by
 obtain ⟨v',f1,f1',f2,f3,f4,f5⟩ := PureSl_frz2 hv
 obtain ⟨u',g1,g1',g2,g3,g4,g5⟩ := PureSl_frz2 hu
 have s1 := lenv_sl (hv.sl []).len
 have s2 := lenv_sl (g4.sl []).len
 simp only [ints_len] at s1 s2
 unfold cmpL
 by_cases hlen : l.length = m.length
 ·have c1 : (l.length : Int) = m.length := by omega
  have hb := back_run (H := cmpH h v' u') (nb := h.length + 2) (lo := h.length) (id := h.length + 0) (Y := cmpY l m) (Iv := fun _ s => s = none) f4 hl (fun s => by simp [cmpH]) (by omega)
   (fun k s hk hi hy => by
    subst hi
    simp only [cmpY] at hy ⊢
    split at hy
    ·rename_i hc; rw [if_pos hc]
    ·cases hy)
   (fun k s hk hi => by subst hi; exact cmp_yield g4 hlen hm h k hk h.length (Nat.le_refl _)) none rfl
  have hc := back_cmp l m l.length
  rw [if_pos hlen]
  have bw := backward_run v v' f1 f1' f2 f5
  cases hB : backF (cmpY l m) l.length none with
  | none =>
   rw [hB] at hb hc
   simp only [] at hc
   have g3' := w_rfn (L := lib) (lo := h.length) (ns := 2) (s := 0) (g := 9) (it := 175) (v := 0) (caps := [.cptr [v']]) (env := cmpE h v' u') (h := h) (b := .dead) (fr := [(0,.dead),(1,.box [.int .i64 0])])
    (fr' := [(1,.rcd ⟨9,h.length,h.length,2,cmpE h v' u'⟩ .ready),(1,.box [.int .i64 0])]) (f := .t 18) rfl (by omega) rfl hb rfl
   simp only [cmpE,List.set_cons_zero] at g3'
   rw [hc,run_closed (x := x115) rfl rfl rfl rfl]
   simp (maxSteps := 1000000) (disch := omega) only [go_sem,x115,f1,f2,g1,g2,g5,s1,s2,c1,ne_eq,not_true_eq_false,bw,g3']
  | some c =>
   rw [hB] at hb hc
   simp only [] at hc
   have g3' := w_rfn_done (L := lib) (lo := h.length) (ns := 2) (s := 0) (g := 9) (it := 175) (v := 0) (caps := [.cptr [v']]) (env := cmpE h v' u') (h := h) (b := .dead) (fr := [(0,.dead),(1,.box [.int .i64 0])])
    (fr' := [(1,.rcd ⟨9,h.length,h.length,2,cmpE h v' u'⟩ (.done .ret)),(1,.box [.int .i64 c])]) (f := .t 18) rfl (by omega) rfl hb rfl
   simp only [cmpE,List.set_cons_zero] at g3'
   rw [hc,run_closed (x := x115) rfl rfl rfl rfl]
   simp (maxSteps := 1000000) (disch := omega) only [go_sem,x115,f1,f2,g1,g2,g5,s1,s2,c1,ne_eq,not_true_eq_false,bw,g3']
 ·have c1 : ¬ (l.length : Int) = m.length := by omega
  have hc : (if l.length = m.length then cmpK l m l.length else if l.length < m.length then -1 else 1) = cmpN (l.length : Int) (m.length : Int) := by
   rw [if_neg hlen]
   unfold cmpN
   by_cases c2 : l.length < m.length
   ·rw [if_pos c2,if_pos (by omega)]
   ·rw [if_neg c2,if_neg (by omega),if_neg c1]
  rw [hc,run_closed (x := x115) rfl rfl rfl rfl]
  simp (maxSteps := 1000000) (disch := omega) only [go_sem,x115,f1,f2,g1,g2,g5,s1,s2,c1,cmpc_run]
end Go.VI.Dump
namespace Go.VI.Dump
open Go.VI.Num
theorem search_loop {f : Nat} {caps : List AV} {h : Heap} {t n : Nat} (hf : f < 1000) (hn : n ≤ 1000000) (hd : ∀ d : Nat,d < n → (run lib).fn f (.int .i64 d :: caps) h h.length = some (.bool (decide (t ≤ d)),h)) (m : Nat) :
  ∀ i j : Nat,j - i ≤ m → i ≤ min n t → min n t ≤ j → j ≤ n →
  runC lib ⟨h.length,h.length,0,none⟩ (.loop b149_0) ([(1,.fn f caps),(5,.int .i64 i),(6,.int .i64 j)],h) = some (.exit 0,([(5,.int .i64 (min n t : Nat))],h)) := by
 induction m with
 | zero =>
  intro i j h1 h2 h3 h4
  have : i = min n t := by omega
  have c1 : ¬ (i : Int) < j := by omega
  rw [← this,w_loop]
  simp (maxSteps := 1000000) (disch := omega) only [go_sem,c1]
 | succ m ih =>
  intro i j h1 h2 h3 h4
  by_cases c : i < j
  ·have c1 : (i : Int) < j := by omega
   obtain ⟨d,hdd⟩ : ∃ d,d = (i + j) / 2 := ⟨_,rfl⟩
   have e1 : ((i : Int) + j) / 2 = (d : Int) := by omega
   have y := hd d (by omega)
   rw [w_loop]
   by_cases c2 : t ≤ d
   ·rw [decide_eq_true c2] at y
    have k := ih i d (by omega) h2 (by omega) (by omega)
    simp (maxSteps := 1000000) (disch := omega) only [go_sem,c1,e1,hf,y,k]
   ·rw [decide_eq_false c2] at y
    have k := ih (d + 1) j (by omega) (by omega) h3 h4
    rw [cast1] at k
    simp (maxSteps := 1000000) (disch := omega) only [go_sem,c1,e1,hf,y,k]
  ·have : i = min n t := by omega
   have c1 : ¬ (i : Int) < j := by omega
   rw [← this,w_loop]
   simp (maxSteps := 1000000) (disch := omega) only [go_sem,c1]
theorem search_run {f : Nat} {caps : List AV} {h : Heap} {t n : Nat} (hf : f < 1000) (hn : n ≤ 1000000) (hd : ∀ d : Nat,d < n → (run lib).fn f (.int .i64 d :: caps) h h.length = some (.bool (decide (t ≤ d)),h)) (lo : Nat) :
  (run lib).fn 149 [.int .i64 n,.fn f caps] h lo = some (.int .i64 (min n t : Nat),h) := by
 have e := search_loop hf hn hd n 0 n (by omega) (by omega) (by omega) (by omega)
 simp only [Int.natCast_zero] at e
 rw [run_closed (x := x149) rfl rfl rfl rfl]
 simp (maxSteps := 1000000) (disch := omega) only [go_sem,x149,e]
end Go.VI.Dump
namespace Go.VI
theorem mkAt_r {lo ns s : Nat} {p : Nat × Nat} {b : Blk} {h fr : Heap} (hf : b.fits ⟨lo,h.length,ns,some p⟩ = true) : mkAt ⟨lo,h.length,ns,some p⟩ s b (h ++ fr) = mkF s ns b h fr fr[s]? := by
 rw [← mkAt_fr (lo := lo)]
 have : b.fits ⟨lo,h.length,ns,none⟩ = true := by
  cases b with
  | box cs => simp [Blk.fits,Cx.fit]
  | rcd d st => simp [Blk.fits,Cx.fit]
  | _ => rfl
 simp only [mkAt,hf,this]
theorem app_lit {lo ns s z lim v : Nat} {p : Nat × Nat} {h fr : Heap} {b : Blk} {es xs : List AV} (hs : s < ns) (hb : fr[s]? = some (v,b)) (hx : xs ≠ []) (hl : es.length + xs.length ≤ lim) :
  (appv ⟨lo,h.length,ns,some p⟩ s z lim (.lsf z es) xs (h ++ fr)).bind (fun r => frz h.length false r.1 r.2) = some (.lst z (es ++ xs),h ++ fr.set s (v + 1,.dead)) := by
 have hm := mkAt_r (lo := lo) (ns := ns) (s := s) (p := p) (b := .arr z (es ++ xs)) (h := h) (fr := fr) rfl
 rw [hb,mkF_some,if_pos hs] at hm
 have hl' : (es ++ xs).length ≤ lim := by simpa using hl
 simp only [appv,beq_self_eq_true,Bool.true_or,if_true,if_neg hx,if_pos hl',hm,Option.map_some,Option.bind_some]
 have hlt : s < fr.length := (List.getElem?_eq_some_iff.mp hb).1
 have hg : (h ++ fr.set s (v + 1,Blk.arr z (es ++ xs)))[h.length + s]? = some (v + 1,.arr z (es ++ xs)) := by rw [get_fr]; simp [hlt]
 simp [frz,asList0,hg,set_fr]
 rw [← List.length_append,List.take_length]
end Go.VI
namespace Go.VI.Dump
open Go.VI.Num
def outV : Option Nat → AV
 | none => .nilSl
 | some n => .lst 1 (ints (grp n))
def tmY (a : Nat) (m : List Int) (s : Option Nat × Nat) (k : Nat) : Bool × (Option Nat × Nat) := (true,some (10000 * s.1.getD 0 + a * (m.getD k 0).toNat),if s.1.getD 0 = 0 then s.2 else s.2 + 1)
def tmE (h : Heap) (v u : AV) : Env := [(2,.cptr [v]),(4,.nilSl),(5,.bptr (h.length + 2) 1 0),(9,.fn 175 [.cptr [u]])]
def tmH (h : Heap) (v u : AV) (s : Option Nat × Nat) : Heap := h ++ [(1,.rcd ⟨10,h.length,h.length,3,tmE h v u⟩ .ready),(s.2,.dead),(1,.box [outV s.1])]
theorem outV_pure (o : Option Nat) : PureSl 1 (outV o) (ints (grp (o.getD 0))) := by
 cases o with
 | none => exact .inl ⟨rfl,rfl⟩
 | some n => exact .inr ⟨1,.inl rfl,.inl rfl⟩
theorem outV_props (o : Option Nat) : (outV o).val = true ∧ (outV o).cells = [outV o] ∧ (outV o).closed = true := by cases o <;> exact ⟨rfl,rfl,rfl⟩
theorem grp_shift {n : Nat} (h : n ≠ 0) : (0 : Int) :: grp n = grp (10000 * n) := by
 rw [grp_pos (n := 10000 * n) (by omega)]
 have e1 : 10000 * n % 10000 = 0 := by omega
 have e2 : 10000 * n / 10000 = n := by omega
 rw [e1,e2]; rfl
theorem tm_yield {v u : AV} {a : Nat} {m : List Int} (hv : PureSl 1 v (ints (grp a))) (dm : Dig m) (ha : (grp a).length ≤ 20000) (h : Heap) (k : Nat) (hk : k < m.length) (s : Option Nat × Nat) (hs : (grp (s.1.getD 0)).length ≤ 40000) (lo : Nat) (hlo : lo ≤ h.length) :
  yieldv (run lib) ⟨lo,h.length + 3,0,none⟩ (h.length + 0) 1 [.int .i64 k,.int .i64 m[k]] (tmH h v u s) = some (.bool (tmY a m s k).1,tmH h v u (tmY a m s k).2) := by
 obtain ⟨o,w⟩ := s
 obtain ⟨D,hD⟩ : ∃ D : Rcd,D = ⟨10,h.length,h.length,3,tmE h v u⟩ := ⟨_,rfl⟩
 have gm : m.getD k 0 = m[k] := by rw [List.getD_eq_getElem?_getD,List.getElem?_eq_getElem hk]; rfl
 have hx := dm m[k] (List.getElem_mem hk)
 simp only [tmY,gm]
 simp only [] at hs
 generalize m[k] = x at *
 obtain ⟨d,rfl⟩ : ∃ d : Nat,x = d := ⟨x.toNat,by omega⟩
 simp only [tmH,← hD,Int.toNat_natCast]
 obtain ⟨n,hn⟩ : ∃ n,n = o.getD 0 := ⟨_,rfl⟩
 have hp := outV_pure o
 rw [← hn] at hp hs ⊢
 obtain ⟨p1,p2,p3⟩ := outV_props o
 have s1 := lenv_sl (hp.sl []).len
 rw [ints_len] at s1
 generalize outV o = O at *
 have hby := fun H lo => by_run (k := d) hv (by omega) (by omega) H lo
 have hbyl : (grp (a * d)).length ≤ 50000 := by
  have h1 : a * d ≤ 10000 * a := by rw [Nat.mul_comm]; exact Nat.mul_le_mul_right _ (by omega)
  have h2 := grp_len_le h1
  by_cases h0 : a = 0
  ·subst h0; simp [grp_zero]
  ·rw [← grp_shift h0] at h2
   simp at h2; omega
 have ha' : runC lib ⟨h.length,h.length,3,some (h.length + 0,1)⟩ r10.asg ((r10.ps.zip [.int .i64 k,.int .i64 d]).foldl (fun e p => e.set p.1 p.2) (tmE h v u),h ++ [(1,.rcd D .ready),(w,.dead),(1,.box [O])]) =
   some (.norm,([(2,.cptr [v]),(5,.bptr (h.length + 2) 1 0),(7,.int .i64 d)],h ++ [(1,.rcd D .ready),(w,.dead),(1,.box [O])])) := by
  simp (maxSteps := 1000000) (disch := omega) only [go_sem,r10,tmE,List.zip_cons_cons,List.zip_nil_right,List.foldl_cons,List.foldl_nil]
 have hg : (h ++ [(1,Blk.rcd D .ready),(w,.dead),(1,.box [O])])[h.length + 0]? = some (1,.rcd ⟨10,h.length,h.length,3,tmE h v u⟩ .ready) := by rw [get_fr,← hD]; rfl
 have hb : runC lib ⟨h.length,h.length,3,some (h.length + 0,1)⟩ r10.body ([(2,.cptr [v]),(5,.bptr (h.length + 2) 1 0),(7,.int .i64 d)],(h ++ [(1,Blk.rcd D .ready),(w,Blk.dead),(1,Blk.box [O])]).set (h.length + 0) (1,.rcd D .busy)) =
   some (.norm,([],h ++ [(1,.rcd D .busy),(if n = 0 then w else w + 1,.dead),(1,.box [.lst 1 (ints (grp (10000 * n + a * d)))])])) := by
  rw [set_fr]
  have psl : ∀ (es : List AV) (w' : Nat) (O' : AV),pstore ⟨h.length,h.length,3,some (h.length + 0,1)⟩ (h ++ [(1,.rcd D .busy),(w',.dead),(1,.box [O'])]) 1 (.bptr (h.length + 2) 1 0) (.lst 1 es) = some (h ++ [(1,.rcd D .busy),(w',.dead),(1,.box [.lst 1 es])]) := fun es w' O' => by
   rw [ps_bptr_r (Nat.le_refl _) rfl,if_pos ⟨rfl,rfl⟩]
   simp (maxSteps := 1000000) (disch := omega) only [go_sem]
  by_cases h0 : n = 0
  ·have hpl := fun H lo => plus_run (a := n) (b := a * d) hp (.inr ⟨1,.inl rfl,.inl rfl⟩) (by omega) hbyl H lo
   subst h0
   have c1 : ¬ (0 : Int) < ((grp 0).length : Nat) := by simp [grp_zero]
   rw [Nat.zero_add] at hpl
   rw [if_pos rfl,Nat.mul_zero,Nat.zero_add]
   simp (maxSteps := 1000000) (disch := omega) only [go_sem,r10,s1,c1,hby,hpl,psl]
  ·have hne : grp n ≠ [] := fun e => h0 (grp_nil.mp e)
   have c1 : (0 : Int) < ((grp n).length : Nat) := by have := List.length_pos_iff.mpr hne; omega
   have src := fun H : Heap => appSrc_sl (hp.sl H)
   have al := app_lit (lo := h.length) (ns := 3) (s := 1) (z := 1) (lim := 17592186044416) (v := w) (p := (h.length + 0,1)) (h := h) (fr := [(1,.rcd D .busy),(w,.dead),(1,.box [O])]) (b := .dead) (es := [.int .i64 0]) (xs := ints (grp n)) (by omega) rfl (by intro e; exact hne (by simpa [ints] using e)) (by simp; omega)
   have hsh : [AV.int .i64 0] ++ ints (grp n) = ints (grp (10000 * n)) := by rw [← grp_shift h0]; rfl
   rw [hsh] at al
   have hpl := fun H lo => plus_run (v := .lst 1 (ints (grp (10000 * n)))) (a := 10000 * n) (b := a * d) (.inr ⟨1,.inl rfl,.inl rfl⟩) (u := .lst 1 (ints (grp (a * d)))) (.inr ⟨1,.inl rfl,.inl rfl⟩) (by rw [← grp_shift h0]; simp; omega) hbyl H lo
   simp only [List.set_cons_succ,List.set_cons_zero] at al
   rw [if_neg h0]
   simp (maxSteps := 1000000) (disch := omega) only [go_sem,r10,s1,c1,src,al,hby,hpl,psl]
 have := yield_round (L := lib) (cx := ⟨lo,h.length + 3,0,none⟩) hg hlo (by omega) (by omega) (by simp [AV.closedL,AV.closed]) (x := r10) rfl rfl ha' (by rw [get_fr]; rfl) hb (by rw [get_fr]; rfl)
 rw [this,set_fr]
 rfl
end Go.VI.Dump
namespace Go.VI.Dump
open Go.VI.Num
theorem grp_len_pow : ∀ (t n : Nat),n < 10000 ^ t → (grp n).length ≤ t
 | 0,n,h => by
  have : n = 0 := by simp at h; exact h
  subst this; simp [grp_zero]
 | t + 1,n,h => by
  by_cases h0 : n = 0
  ·subst h0; simp [grp_zero]
  ·rw [Nat.pow_succ,Nat.mul_comm] at h
   have := grp_len_pow t (n / 10000) (Nat.div_lt_of_lt_mul h)
   rw [grp_pos h0,List.length_cons]; omega
theorem grp_lt_pow (n : Nat) : n < 10000 ^ (grp n).length := by
 have h := gv_lt (dig_grp n)
 rw [gv_grp] at h
 have e : ((10000 ^ (grp n).length : Nat) : Int) = (10000 : Int) ^ (grp n).length := by rw [Int.natCast_pow]; rfl
 rw [← e] at h
 exact Int.ofNat_lt.mp h
theorem grp_len_mul (a b : Nat) : (grp (a * b)).length ≤ (grp a).length + (grp b).length := by
 refine grp_len_pow _ _ ?_
 rw [Nat.pow_add]
 exact Nat.mul_lt_mul'' (grp_lt_pow a) (grp_lt_pow b)
theorem back_inv {σ : Type} {Y : σ → Nat → Bool × σ} {Iv : Nat → σ → Prop} {n : Nat} (hY : ∀ s k,(Y s k).1 = true) (hI : ∀ k s,k < n → Iv (k + 1) s → Iv k (Y s k).2) : ∀ k s,k ≤ n → Iv k s → Iv 0 (backF Y k s)
 | 0,s,_,h => h
 | k + 1,s,hk,h => by
  simp only [backF,hY,if_true]
  exact back_inv hY hI k _ (by omega) (hI k s (by omega) h)
def tmI (a : Nat) (m : List Int) (k : Nat) (s : Option Nat × Nat) : Prop := s.1.getD 0 = a * (gv (m.drop k)).toNat ∧ (k < m.length → s.1 ≠ none) ∧ (k = m.length → s.1 = none)
theorem tmI_step {a : Nat} {m : List Int} (dm : Dig m) (k : Nat) (s : Option Nat × Nat) (hk : k < m.length) (hi : tmI a m (k + 1) s) : tmI a m k (tmY a m s k).2 := by
 obtain ⟨h1,_,_⟩ := hi
 have gm : m.getD k 0 = m[k] := by rw [List.getD_eq_getElem?_getD,List.getElem?_eq_getElem hk]; rfl
 have hx := dm m[k] (List.getElem_mem hk)
 have hd : Dig (m.drop (k + 1)) := fun x hx => dm x (List.mem_of_mem_drop hx)
 have hg := gv_nn hd
 refine ⟨?_,fun _ => by simp [tmY],fun h => by omega⟩
 simp only [tmY,gm,h1,Option.getD_some]
 rw [List.drop_eq_getElem_cons hk,gv]
 have e : (m[k] + 10000 * gv (m.drop (k + 1))).toNat = m[k].toNat + 10000 * (gv (m.drop (k + 1))).toNat := by omega
 rw [e,Nat.mul_add,Nat.add_comm,← Nat.mul_assoc,← Nat.mul_assoc,Nat.mul_comm 10000 a]
theorem tmI_len {a b : Nat} {k : Nat} {s : Option Nat × Nat} (ha : (grp a).length ≤ 20000) (hb : (grp b).length ≤ 20000) (hi : tmI a (grp b) k s) : (grp (s.1.getD 0)).length ≤ 40000 := by
 rw [hi.1]
 have h1 := grp_len_mul a (gv ((grp b).drop k)).toNat
 have hd : Dig ((grp b).drop k) := fun x hx => dig_grp b x (List.mem_of_mem_drop hx)
 have h2 : (gv ((grp b).drop k)).toNat < 10000 ^ ((grp b).drop k).length := by
  have h := gv_lt hd
  have e : ((10000 ^ ((grp b).drop k).length : Nat) : Int) = (10000 : Int) ^ ((grp b).drop k).length := by rw [Int.natCast_pow]; rfl
  rw [← e] at h
  have := gv_nn hd
  generalize 10000 ^ ((grp b).drop k).length = X at *
  omega
 have h3 := grp_len_pow _ _ h2
 have h4 : ((grp b).drop k).length ≤ (grp b).length := by simp
 omega
theorem times_run {v u : AV} {a b : Nat} (hv : PureSl 1 v (ints (grp a))) (hu : PureSl 1 u (ints (grp b))) (ha : (grp a).length ≤ 20000) (hb : (grp b).length ≤ 20000) (h : Heap) (lo : Nat) :
  (run lib).fn 181 [v,u] h lo = some (if b = 0 then .own 0 [] else .lst 1 (ints (grp (a * b))),h) := by
 obtain ⟨v',f1,f1',f2,f3,f4,f5⟩ := PureSl_frz2 hv
 obtain ⟨u',g1,g1',g2,g3,g4,g5⟩ := PureSl_frz2 hu
 have dm := dig_grp b
 have i0 : tmI a (grp b) (grp b).length (none,0) := ⟨by simp [gv],fun h => by omega,fun _ => rfl⟩
 have hbk := back_run (H := tmH h v' u') (nb := h.length + 3) (lo := h.length) (id := h.length + 0) (Y := tmY a (grp b)) (Iv := tmI a (grp b)) g4 (by omega) (fun s => by simp [tmH]) (by omega)
  (fun k s hk hi _ => tmI_step dm k s hk hi) (fun k s hk hi => tm_yield f4 dm ha h k hk s (tmI_len ha hb hi) h.length (Nat.le_refl _)) (none,0) i0
 have hfin := back_inv (Iv := tmI a (grp b)) (fun s k => rfl) (fun k s hk hi => tmI_step dm k s hk hi) (grp b).length (none,0) (Nat.le_refl _) i0
 obtain ⟨s',hs'⟩ : ∃ s',s' = backF (tmY a (grp b)) (grp b).length (none,0) := ⟨_,rfl⟩
 rw [← hs'] at hbk hfin
 clear hs'
 obtain ⟨o,w⟩ := s'
 have e1 := hfin.1
 simp only [List.drop_zero,gv_grp,Int.toNat_natCast] at e1
 have bw := backward_run u u' g1 g1' g2 g5
 have g3' := w_rfn (L := lib) (lo := h.length) (ns := 3) (s := 0) (g := 10) (it := 175) (v := 0) (caps := [.cptr [u']]) (env := tmE h v' u') (h := h) (b := .dead) (fr := [(0,.dead),(0,.dead),(1,.box [.nilSl])])
  (fr' := [(1,.rcd ⟨10,h.length,h.length,3,tmE h v' u'⟩ .ready),(w,.dead),(1,.box [outV o])]) (f := .t 9) rfl (by omega) rfl hbk rfl
 simp only [tmE,List.set_cons_zero] at g3'
 rw [run_closed (x := x181) rfl rfl rfl rfl]
 by_cases h0 : b = 0
 ·subst h0
  have ho : o = none := hfin.2.2 rfl
  subst ho
  simp only [outV] at g3'
  rw [if_pos rfl]
  simp (maxSteps := 1000000) (disch := omega) only [go_sem,x181,f1,f2,f5,g2,bw,g3']
 ·have hne : grp b ≠ [] := fun e => h0 (grp_nil.mp e)
  have ho : o ≠ none := hfin.2.1 (List.length_pos_iff.mpr hne)
  obtain ⟨n,rfl⟩ := Option.ne_none_iff_exists'.mp ho
  simp only [Option.getD_some] at e1
  subst e1
  simp only [outV] at g3'
  rw [if_neg h0]
  simp (maxSteps := 1000000) (disch := omega) only [go_sem,x181,f1,f2,f5,g2,bw,g3']
end Go.VI.Dump
namespace Go.VI.Dump
open Go.VI.Num
theorem cmpN_gt (a b : Int) : (0 < cmpN a b) ↔ b < a := by
 unfold cmpN
 by_cases h1 : a < b
 ·rw [if_pos h1]; omega
 ·rw [if_neg h1]
  by_cases h2 : a = b
  ·rw [if_pos h2]; omega
  ·rw [if_neg h2]; omega
theorem over1_run {u r : AV} {m n : Nat} (hm0 : m ≠ 0) (hu : PureSl 1 u (ints (grp m))) (hr : PureSl 1 r (ints (grp n))) (hm : (grp m).length ≤ 20000) (hn : (grp n).length ≤ 20000) (h : Heap) (i1 v1 i2 v2 : Nat)
  (e1 : h[i1]? = some (v1,.box [.fn (1000 + 147) [u]])) (e2 : h[i2]? = some (v2,.box [r])) (d : Nat) (hd : d < 9999) (lo : Nat) :
  (run lib).fn 148 [.int .i64 d,.bptr i1 v1 0,.bptr i2 v2 0] h lo = some (.bool (decide (n / m ≤ d)),h) := by
 have c1 : pcells h (.bptr i1 v1 0) = some [.fn (1000 + 147) [u]] := by simp [pcells,e1]
 have c2 : pcells h (.bptr i2 v2 0) = some [r] := by simp [pcells,e2]
 have b := fun H lo => by_run (k := d + 1) hu (by omega) (by omega) H lo
 rw [cast1] at b
 have hl : (grp (m * (d + 1))).length ≤ 1000000 := by
  have h1 := grp_len_mul m (d + 1)
  have h2 := grp_len_pow 1 (d + 1) (by omega)
  omega
 have k := fun H lo => cmp_run (v := .lst 1 (ints (grp (m * (d + 1))))) (l := grp (m * (d + 1))) (.inr ⟨1,.inl rfl,.inl rfl⟩) hr hl (by omega) H lo
 rw [cmpL_grp] at k
 have hdec : decide (0 < cmpN ((m * (d + 1) : Nat) : Int) (n : Int)) = decide (n / m ≤ d) := by
  rw [decide_eq_decide,cmpN_gt]
  have hpos : 0 < m := by omega
  have h1 : n / m < d + 1 ↔ n < (d + 1) * m := Nat.div_lt_iff_lt_mul hpos
  rw [Nat.mul_comm] at h1
  omega
 rw [run_closed (x := x148) rfl rfl rfl rfl]
 simp (maxSteps := 1000000) (disch := omega) only [go_sem,x148,c1,c2,b,k,hdec]
end Go.VI.Dump
namespace Go.VI.Dump
open Go.VI.Num
theorem trim1_run (d : Nat) (hd : d ≤ 9999) : ∃ X : AV,PureSl 1 X (ints (grp d)) ∧ X.closed = true ∧ X.val = true ∧ X.cells = [X] ∧ ∀ h lo,(run lib).fn 146 [.lsf 1 [.int .i64 d]] h lo = some (X,h) := by
 have s1 : lenv false (.lsf 1 [.int .i64 d]) = some (.int .i64 1) := rfl
 have e3 : sidx 1 (.lsf 1 [.int .i64 d]) (.int .i64 0) = some 0 := rfl
 have e4 : ∀ off H,pcells H (.iptr (.lsf 1 [.int .i64 d]) 0 off) = some ([AV.int .i64 d].drop off) := fun off H => rfl
 by_cases h0 : d = 0
 ·subst h0
  have hs : slicev (some 1) (.lsf 1 [.int .i64 ((0 : Nat) : Int)]) none (some (.int .i64 0)) = some (.lst 1 []) := rfl
  refine ⟨.lst 1 [],.inr ⟨1,.inl rfl,.inl rfl⟩,rfl,rfl,rfl,fun h lo => ?_⟩
  have t := trim_loop (l := []) (by simp) ⟨h.length,h.length,0,none⟩ h 0 (Nat.le_refl _)
  simp only [List.take_nil,ints,List.map_nil] at t
  have ez : ((0 : Nat) : Int) = 0 := rfl
  rw [ez] at s1 e3 e4 hs ⊢
  have w : runC lib ⟨h.length,h.length,0,none⟩ (.loop b146_0) ([(0,.lsf 1 [.int .i64 0])],h) = some (.exit 0,([(0,.lst 1 [])],h)) := by
   rw [w_loop]
   simp (maxSteps := 1000000) (disch := omega) only [go_sem,s1,e3,e4,hs,t]
  rw [run_closed (x := x146) rfl rfl rfl rfl]
  simp (maxSteps := 1000000) (disch := omega) only [go_sem,x146,w]
 ·have hg : grp d = [(d : Int)] := by
   rw [grp_pos h0,Nat.mod_eq_of_lt (by omega),show d / 10000 = 0 by omega]; rfl
  have c : ¬ (d : Int) = 0 := by omega
  refine ⟨.lsf 1 [.int .i64 d],by rw [hg]; exact .inr ⟨1,.inr rfl,.inl rfl⟩,rfl,rfl,rfl,fun h lo => ?_⟩
  have w : runC lib ⟨h.length,h.length,0,none⟩ (.loop b146_0) ([(0,.lsf 1 [.int .i64 d])],h) = some (.exit 0,([(0,.lsf 1 [.int .i64 d])],h)) := by
   rw [w_loop]
   simp (maxSteps := 1000000) (disch := omega) only [go_sem,s1,e3,e4,c]
  rw [run_closed (x := x146) rfl rfl rfl rfl]
  have hg2 : giveRes h.length (.lsf 1 [.int .i64 d]) h = some (.lsf 1 [.int .i64 d]) := rfl
  simp (maxSteps := 1000000) (disch := omega) only [go_sem,x146,w,hg2,Option.map_some]
end Go.VI.Dump
namespace Go.VI.Dump
open Go.VI.Num
def ovE (h : Heap) (v u : AV) : Env := [(3,.cptr [u]),(4,.bptr (h.length + 4) 1 0),(5,.bptr (h.length + 5) 1 0),(14,.fn 175 [.cptr [v]])]
structure OvS where
 q : List Int
 R : Nat
 rv : AV
 s1 : Nat × Blk
 w2 : Nat
def ovH (h : Heap) (v u : AV) (N : Nat) (s : OvS) : Heap := h ++ [(1,.rcd ⟨7,h.length,h.length,6,ovE h v u⟩ .ready),s.s1,(s.w2,.dead),(1,.arr 1 (ints s.q)),(1,.box [.ref (h.length + 3) 1 1 0 N N]),(1,.box [s.rv])]
def ovT (u : AV) (m : Nat) (d : Nat) (k : Nat) (s : OvS) : OvS :=
 ⟨s.q.set k ((d + 10000 * s.R) / m : Nat),(d + 10000 * s.R) % m,.lst 1 (ints (grp ((d + 10000 * s.R) % m))),(s.s1.1 + 1,.box [.fn (1000 + 147) [u]]),if s.R = 0 then s.w2 else s.w2 + 1⟩
theorem ov_reg1 {rv : AV} {R d : Nat} (hr : PureSl 1 rv (ints (grp R))) (hR : (grp R).length ≤ 20000) (hd : d ≤ 9999) : ∃ X : AV,PureSl 1 X (ints (grp (d + 10000 * R))) ∧ X.closed = true ∧ X.val = true ∧ X.cells = [X] ∧
  ∀ (h fr : Heap) (w : Nat) (p : Nat × Nat),fr[2]? = some (w,.dead) → ∃ Y : AV,(appv ⟨h.length,h.length,6,some p⟩ (1002 - 1000) 1 17592186044416 (.lsf 1 [.int .i64 d]) (ints (grp R)) (h ++ fr)).bind (fun r => frz h.length false r.1 r.2) = some (Y,h ++ (if R = 0 then fr else fr.set 2 (w + 1,.dead))) ∧
   ∀ H lo,(run lib).fn 146 [Y] H lo = some (X,H) := by
 by_cases h0 : R = 0
 ·subst h0
  obtain ⟨X,x1,x2,x3,x4,x5⟩ := trim1_run d hd
  refine ⟨X,by rw [Nat.mul_zero,Nat.add_zero]; exact x1,x2,x3,x4,fun h fr w p hf => ⟨.lsf 1 [.int .i64 d], ?_,x5⟩⟩
  simp [appv,grp_zero,ints,frz]
 ·have hne : grp R ≠ [] := fun e => h0 (grp_nil.mp e)
  have hdig : Dig ((d : Int) :: grp R) := Dig.cons.mpr ⟨by omega,dig_grp R⟩
  have ht : trimL ((d : Int) :: grp R) = grp (d + 10000 * R) := by
   rw [trimL_eq hdig,gv,gv_grp]
   congr 1
  have hl : ((d : Int) :: grp R).length ≤ 1000000 := by simp; omega
  have t := trim_run hl
  rw [ht] at t
  refine ⟨.lst 1 (ints (grp (d + 10000 * R))),.inr ⟨1,.inl rfl,.inl rfl⟩,rfl,rfl,rfl,fun h fr w p hf => ⟨.lst 1 (ints ((d : Int) :: grp R)), ?_,t⟩⟩
  rw [if_neg h0]
  have := app_lit (lo := h.length) (ns := 6) (s := 2) (z := 1) (lim := 17592186044416) (v := w) (p := p) (h := h) (fr := fr) (b := .dead) (es := [.int .i64 d]) (xs := ints (grp R)) (by omega) hf (by intro e; exact hne (by simpa [ints] using e)) (by simp; omega)
  exact this
end Go.VI.Dump
namespace Go.VI.Dump
open Go.VI.Num
theorem PureSl_weak {z : Nat} {v : AV} {es : List AV} (p : PureSl z v es) : weak v = v := by
 rcases p with ⟨rfl,rfl⟩ | ⟨z',rfl | rfl,hz⟩ <;> rfl
theorem ov_yield {v u : AV} {m : Nat} (hm0 : m ≠ 0) (hu : PureSl 1 u (ints (grp m))) (uc : u.closed = true) (hm : (grp m).length ≤ 15000) (N : Nat) (hN : N ≤ 20000) (h : Heap) (s : OvS) (hq : s.q.length = N) (hr : PureSl 1 s.rv (ints (grp s.R))) (hR : s.R < m) (rv1 : s.rv.val = true) (k : Nat) (hk : k < N) (d : Nat) (hd : d ≤ 9999) (lo : Nat) (hlo : lo ≤ h.length) :
  yieldv (run lib) ⟨lo,h.length + 6,0,none⟩ (h.length + 0) 1 [.int .i64 k,.int .i64 d] (ovH h v u N s) = some (.bool true,ovH h v u N (ovT u m d k s)) := by
 obtain ⟨q,R,rv,s1,w2⟩ := s
 obtain ⟨w1,b1⟩ := s1
 simp only [] at hq hr hR rv1
 obtain ⟨D,hD⟩ : ∃ D : Rcd,D = ⟨7,h.length,h.length,6,ovE h v u⟩ := ⟨_,rfl⟩
 simp only [ovH,ovT,← hD]
 have hRl : (grp R).length ≤ 15000 := Nat.le_trans (grp_len_le (Nat.le_of_lt hR)) hm
 obtain ⟨X,x1,x2,x3,x4,x5⟩ := ov_reg1 (d := d) hr (by omega) hd
 obtain ⟨n,hn⟩ : ∃ n,n = d + 10000 * R := ⟨_,rfl⟩
 rw [← hn] at x1 ⊢
 obtain ⟨t,ht⟩ : ∃ t,t = n / m := ⟨_,rfl⟩
 have ht9 : t ≤ 9999 := by
  have : n < 10000 * m := by omega
  have := Nat.div_lt_of_lt_mul (by rw [Nat.mul_comm]; exact this : n < m * 10000)
  omega
 have hnl : (grp n).length ≤ 15001 := by
  have h1 : n ≤ 10000 * m := by omega
  have h2 := grp_len_le h1
  rw [← grp_shift hm0] at h2
  simp at h2; omega
 have hmt : n - m * t = n % m := by rw [ht]; have := Nat.div_add_mod n m; omega
 rw [← ht]
 obtain ⟨W,hW⟩ : ∃ W,W = if R = 0 then w2 else w2 + 1 := ⟨_,rfl⟩
 have ha' : runC lib ⟨h.length,h.length,6,some (h.length + 0,1)⟩ r7.asg ((r7.ps.zip [.int .i64 k,.int .i64 d]).foldl (fun e p => e.set p.1 p.2) (ovE h v u),h ++ [(1,.rcd D .ready),(w1,b1),(w2,.dead),(1,.arr 1 (ints q)),(1,.box [.ref (h.length + 3) 1 1 0 N N]),(1,.box [rv])]) =
   some (.norm,([(3,.cptr [u]),(4,.bptr (h.length + 4) 1 0),(5,.bptr (h.length + 5) 1 0),(6,.int .i64 k),(7,.int .i64 d)],h ++ [(1,.rcd D .ready),(w1,b1),(w2,.dead),(1,.arr 1 (ints q)),(1,.box [.ref (h.length + 3) 1 1 0 N N]),(1,.box [rv])])) := by
  simp (maxSteps := 1000000) (disch := omega) only [go_sem,r7,ovE,List.zip_cons_cons,List.zip_nil_right,List.foldl_cons,List.foldl_nil]
 have hg : (h ++ [(1,Blk.rcd D .ready),(w1,b1),(w2,.dead),(1,.arr 1 (ints q)),(1,.box [.ref (h.length + 3) 1 1 0 N N]),(1,.box [rv])])[h.length + 0]? = some (1,.rcd ⟨7,h.length,h.length,6,ovE h v u⟩ .ready) := by rw [get_fr,← hD]; rfl
 have hb : runC lib ⟨h.length,h.length,6,some (h.length + 0,1)⟩ r7.body ([(3,.cptr [u]),(4,.bptr (h.length + 4) 1 0),(5,.bptr (h.length + 5) 1 0),(6,.int .i64 k),(7,.int .i64 d)],(h ++ [(1,Blk.rcd D .ready),(w1,b1),(w2,Blk.dead),(1,Blk.arr 1 (ints q)),(1,Blk.box [.ref (h.length + 3) 1 1 0 N N]),(1,Blk.box [rv])]).set (h.length + 0) (1,.rcd D .busy)) =
   some (.norm,([],h ++ [(1,.rcd D .busy),(w1 + 1,.box [.fn (1000 + 147) [u]]),(W,.dead),(1,.arr 1 (ints (q.set k t))),(1,.box [.ref (h.length + 3) 1 1 0 N N]),(1,.box [.lst 1 (ints (grp (n % m)))])])) := by
  rw [set_fr]
  have src := fun H : Heap => appSrc_sl (hr.sl H)
  obtain ⟨Y,y1,y2⟩ := x5 h [(1,.rcd D .busy),(w1,b1),(w2,.dead),(1,.arr 1 (ints q)),(1,.box [.ref (h.length + 3) 1 1 0 N N]),(1,.box [rv])] w2 (h.length + 0,1) rfl
  have y1' : (appv ⟨h.length,h.length,6,some (h.length + 0,1)⟩ (1002 - 1000) 1 17592186044416 (.lsf 1 [.int .i64 d]) (ints (grp R)) (h ++ [(1,.rcd D .busy),(w1,b1),(w2,.dead),(1,.arr 1 (ints q)),(1,.box [.ref (h.length + 3) 1 1 0 N N]),(1,.box [rv])])).bind (fun r => frz h.length false r.1 r.2) = some (Y,h ++ [(1,.rcd D .busy),(w1,b1),(W,.dead),(1,.arr 1 (ints q)),(1,.box [.ref (h.length + 3) 1 1 0 N N]),(1,.box [rv])]) := by
   rw [y1,hW]
   by_cases h0 : R = 0
   ·rw [if_pos h0,if_pos h0]
   ·rw [if_neg h0,if_neg h0]; rfl
  have p1 : pstore ⟨h.length,h.length,6,some (h.length + 0,1)⟩ (h ++ [(1,.rcd D .busy),(w1,b1),(W,.dead),(1,.arr 1 (ints q)),(1,.box [.ref (h.length + 3) 1 1 0 N N]),(1,.box [rv])]) 1 (.bptr (h.length + 5) 1 0) X = some (h ++ [(1,.rcd D .busy),(w1,b1),(W,.dead),(1,.arr 1 (ints q)),(1,.box [.ref (h.length + 3) 1 1 0 N N]),(1,.box [X])]) := by
   rw [ps_bptr_r (Nat.le_refl _) x2,if_pos ⟨by rw [x4]; rfl,x3⟩]
   simp (maxSteps := 1000000) (disch := omega) only [go_sem,x4]
  have p2 : mkAt ⟨h.length,h.length,6,some (h.length + 0,1)⟩ 1 (.box [.nilFn]) (h ++ [(1,.rcd D .busy),(w1,b1),(W,.dead),(1,.arr 1 (ints q)),(1,.box [.ref (h.length + 3) 1 1 0 N N]),(1,.box [X])]) = some (w1 + 1,h ++ [(1,.rcd D .busy),(w1 + 1,.box [.nilFn]),(W,.dead),(1,.arr 1 (ints q)),(1,.box [.ref (h.length + 3) 1 1 0 N N]),(1,.box [X])]) := by
   rw [mkAt_r (by rfl)]
   simp (maxSteps := 1000000) (disch := omega) only [go_sem]
  have p3 : pstore ⟨h.length,h.length,6,some (h.length + 0,1)⟩ (h ++ [(1,.rcd D .busy),(w1 + 1,.box [.nilFn]),(W,.dead),(1,.arr 1 (ints q)),(1,.box [.ref (h.length + 3) 1 1 0 N N]),(1,.box [X])]) 1 (.bptr (h.length + 1) (w1 + 1) 0) (.fn (1000 + 147) [u]) = some (h ++ [(1,.rcd D .busy),(w1 + 1,.box [.fn (1000 + 147) [u]]),(W,.dead),(1,.arr 1 (ints q)),(1,.box [.ref (h.length + 3) 1 1 0 N N]),(1,.box [X])]) := by
   rw [ps_bptr_r (Nat.le_refl _) (by simp [AV.closed,AV.closedL,uc]),if_pos ⟨rfl,rfl⟩]
   simp (maxSteps := 1000000) (disch := omega) only [go_sem]
  have q1 : sidx 1 (.ref (h.length + 3) 1 1 0 N N) (.int .i64 k) = some k := by simp [sidx,zok,slen,idx]; omega
  have sr := search_run (f := 148) (caps := [.bptr (h.length + 1) (w1 + 1) 0,.bptr (h.length + 5) 1 0]) (h := h ++ [(1,.rcd D .busy),(w1 + 1,.box [.fn (1000 + 147) [u]]),(W,.dead),(1,.arr 1 (ints q)),(1,.box [.ref (h.length + 3) 1 1 0 N N]),(1,.box [X])]) (t := t) (n := 9999) (by omega) (by omega)
   (fun d hd => by rw [ht]; exact over1_run hm0 hu x1 (by omega) (by omega) _ _ _ _ _ (by rw [get_fr]; rfl) (by rw [get_fr]; rfl) d hd _)
  rw [Nat.min_eq_right ht9,show ((9999 : Nat) : Int) = 9999 from rfl] at sr
  have p4 := ps_iptr (cx := ⟨h.length,h.length,6,some (h.length + 0,1)⟩) (h := h ++ [(1,.rcd D .busy),(w1 + 1,.box [.fn (1000 + 147) [u]]),(W,.dead),(1,.arr 1 (ints q)),(1,.box [.ref (h.length + 3) 1 1 0 N N]),(1,.box [X])]) (id := h.length + 3) (ver := 1) (o := 0) (len := N) (fill := N) (i := k) (k := .i64) (l := q) (n := (t : Int)) (by rw [get_fr]; rfl) hq (by omega) hk (by simp only []; omega)
  simp only [Nat.zero_add,set_fr,List.set_cons_succ,List.set_cons_zero] at p4
  have so := Sl.refAll (h := h) (fr := [(1,.rcd D .busy),(w1 + 1,.box [.fn (1000 + 147) [u]]),(W,.dead),(1,.arr 1 (ints (q.set k t))),(1,.box [.ref (h.length + 3) 1 1 0 N N]),(1,.box [X])]) (s := 3) (ver := 1) (z := 1) (es := ints (q.set k t)) rfl
  simp only [ints_len,List.length_set,hq] at so
  have q2 := fun off => pc_iptr (off := off) so.elems0 (show k < (ints (q.set k (t : Int))).length by simp; omega)
  simp only [ints_get,List.getElem_set_self] at q2
  have hby := fun H lo => by_run (k := t) hu (by omega) (by omega) H lo
  have hml : (grp (m * t)).length ≤ 50000 := by
   have h1 := grp_len_mul m t
   have h2 := grp_len_pow 1 t (by omega)
   omega
  have hmi := fun H lo => minus_run (a := n) (b := m * t) (u := .lst 1 (ints (grp (m * t)))) x1 (.inr ⟨1,.inl rfl,.inl rfl⟩) (by rw [ht]; exact Nat.mul_div_le n m) (by omega) H lo
  rw [hmt] at hmi
  have p5 : ∀ es : List AV,pstore ⟨h.length,h.length,6,some (h.length + 0,1)⟩ (h ++ [(1,.rcd D .busy),(w1 + 1,.box [.fn (1000 + 147) [u]]),(W,.dead),(1,.arr 1 (ints (q.set k t))),(1,.box [.ref (h.length + 3) 1 1 0 N N]),(1,.box [X])]) 1 (.bptr (h.length + 5) 1 0) (.lst 1 es) = some (h ++ [(1,.rcd D .busy),(w1 + 1,.box [.fn (1000 + 147) [u]]),(W,.dead),(1,.arr 1 (ints (q.set k t))),(1,.box [.ref (h.length + 3) 1 1 0 N N]),(1,.box [.lst 1 es])]) := fun es => by
   rw [ps_bptr_r (Nat.le_refl _) rfl,if_pos ⟨rfl,rfl⟩]
   simp (maxSteps := 1000000) (disch := omega) only [go_sem]
  simp only [ints] at p4 p5 y1' p1 p2 p3 q2 sr hby hmi src ⊢
  have xw := PureSl_weak x1
  have n1 : ¬ h.length = h.length + 4 := by omega
  have n2 : ¬ h.length = h.length + 1 := by omega
  simp (maxSteps := 1000000) (disch := omega) only [go_sem,r7,n1,n2,src,y1',y2,xw,p1,p2,p3,q1,sr,p4,q2,hby,hmi,p5]
 have := yield_round (L := lib) (cx := ⟨lo,h.length + 6,0,none⟩) hg hlo (by omega) (by omega) (by simp [AV.closedL,AV.closed]) (x := r7) rfl rfl ha' (by rw [get_fr]; rfl) hb (by rw [get_fr]; rfl)
 rw [this,set_fr,hW]
 rfl
end Go.VI.Dump
namespace Go.VI.Dump
open Go.VI.Num
theorem div_step {d T m R : Nat} (hm : m ≠ 0) (hR : R = T % m) : (d + 10000 * T) / m = (d + 10000 * R) / m + 10000 * (T / m) ∧ (d + 10000 * T) % m = (d + 10000 * R) % m := by
 have h := Nat.div_add_mod T m
 have e : d + 10000 * T = (d + 10000 * R) + m * (10000 * (T / m)) := by
  have e1 : m * (10000 * (T / m)) = 10000 * (m * (T / m)) := by rw [← Nat.mul_assoc,Nat.mul_comm m 10000,Nat.mul_assoc]
  rw [e1,hR]
  generalize m * (T / m) = X at *
  omega
 rw [e]
 exact ⟨Nat.add_mul_div_left _ _ (by omega),Nat.add_mul_mod_self_left _ _ _⟩
theorem drop_set_self {q : List Int} {k : Nat} (hk : k < q.length) (x : Int) : (q.set k x).drop k = x :: q.drop (k + 1) := by
 rw [List.drop_eq_getElem_cons (by simpa using hk)]
 simp [List.drop_set]
end Go.VI.Dump
namespace Go.VI.Dump
open Go.VI.Num
def ovI (a m N k : Nat) (s : OvS) : Prop := s.q.length = N ∧ PureSl 1 s.rv (ints (grp s.R)) ∧ s.rv.val = true ∧ s.R = (gv ((grp a).drop k)).toNat % m ∧ gv (s.q.drop k) = ((gv ((grp a).drop k)).toNat / m : Nat) ∧ Dig (s.q.drop k)
theorem ovI_step {u : AV} {a m N : Nat} (hm : m ≠ 0) (hN : N = (grp a).length) (k : Nat) (s : OvS) (hk : k < N) (d : Nat) (hd : ((grp a).getD k 0).toNat = d) (hi : ovI a m N (k + 1) s) : ovI a m N k (ovT u m d k s) := by
 obtain ⟨h1,h2,h3,h4,h5,h6⟩ := hi
 have hka : k < (grp a).length := by omega
 have gm : (grp a).getD k 0 = (grp a)[k] := by rw [List.getD_eq_getElem?_getD,List.getElem?_eq_getElem hka]; rfl
 have hx := dig_grp a (grp a)[k] (List.getElem_mem hka)
 have hdg : Dig ((grp a).drop (k + 1)) := fun x hx => dig_grp a x (List.mem_of_mem_drop hx)
 have hg := gv_nn hdg
 rw [gm] at hd
 have hT : (gv ((grp a).drop k)).toNat = d + 10000 * (gv ((grp a).drop (k + 1))).toNat := by
  rw [List.drop_eq_getElem_cons hka,gv]; omega
 obtain ⟨e1,e2⟩ := div_step (d := d) hm h4
 have hRm : s.R < m := by rw [h4]; exact Nat.mod_lt _ (by omega)
 have ht : (d + 10000 * s.R) / m ≤ 9999 := by
  have h9 : d ≤ 9999 := by omega
  have := Nat.div_lt_of_lt_mul (show d + 10000 * s.R < m * 10000 by omega)
  omega
 refine ⟨by simp [ovT,h1],.inr ⟨1,.inl rfl,.inl rfl⟩,rfl, ?_, ?_, ?_⟩
 ·rw [hT,e2]; rfl
 ·simp only [ovT]
  rw [drop_set_self (by omega),gv,h5,hT,e1]
  generalize (d + 10000 * s.R) / m = t
  generalize (gv ((grp a).drop (k + 1))).toNat / m = Q
  omega
 ·simp only [ovT]
  rw [drop_set_self (by omega)]
  refine Dig.cons.mpr ⟨?_,h6⟩
  generalize (d + 10000 * s.R) / m = t at *
  omega
end Go.VI.Dump
namespace Go.VI.Dump
open Go.VI.Num
theorem trimR_loop {l : List Int} (hl : l.length ≤ 1000000) (cx : Cx) (H : Heap) (id : Nat) (hid : H[id]? = some (1,.arr 1 (ints l))) : ∀ k : Nat,k ≤ l.length →
  runC lib cx (.loop b146_0) ([(0,.ref id 1 1 0 k l.length)],H) = some (.exit 0,([(0,.ref id 1 1 0 (trimK l k) l.length)],H)) := by
 intro k
 induction k with
 | zero =>
  intro hk
  rw [w_loop]
  have s3 : lenv false (.ref id 1 1 0 0 l.length) = some (.int .i64 0) := rfl
  simp only [trimK]
  simp (maxSteps := 1000000) (disch := omega) only [go_sem,s3,Int.lt_irrefl]
 | succ k ih =>
  intro hk
  have s3 : lenv false (.ref id 1 1 0 (k + 1) l.length) = some (.int .i64 ((k : Int) + 1)) := rfl
  have c1 : (0 : Int) < (k : Int) + 1 := by omega
  have e0 : (k : Int) + 1 - 1 = k := by omega
  have e3 : sidx 1 (.ref id 1 1 0 (k + 1) l.length) (.int .i64 k) = some k := by simp [sidx,zok,slen,idx]
  have hg : l.getD k 0 = l[k] := by rw [List.getD_eq_getElem?_getD,List.getElem?_eq_getElem (by omega)]; rfl
  have e4 : pcells H (.iptr (.ref id 1 1 0 (k + 1) l.length) k 0) = some [.int .i64 l[k]] := by
   have hb : k + 1 ≤ l.length := hk
   have hk' : k < l.length := by omega
   simp only [pcells,asList0,hid,ints_len]
   simp [hb,ints,List.getElem?_take,hk',AV.cells]
  have hsl : slicev (some 1) (.ref id 1 1 0 (k + 1) l.length) none (some (.int .i64 k)) = some (.ref id 1 1 0 k l.length) := by
   have hb : bnd (some (.int .i64 k)) (k + 1) (k + 1) = some k := by rw [bnd_ok (by omega) (by omega)]; simp
   rw [slicev_ref,hb]
   simp [bnd]
  have ih' := ih (by omega)
  simp only [trimK,hg]
  rw [w_loop]
  by_cases c2 : l[k] = 0
  ·rw [if_pos c2]
   simp (maxSteps := 1000000) (disch := omega) only [go_sem,s3,c1,e0,e3,e4,c2,hsl,ih']
  ·rw [if_neg c2]
   simp (maxSteps := 1000000) (disch := omega) only [go_sem,s3,c1,e0,e3,e4,c2]
theorem trimR_run {l : List Int} (hl : l.length ≤ 1000000) (h : Heap) (id : Nat) (hid : h[id]? = some (1,.arr 1 (ints l))) (N : Nat) (hN : l.length = N) (lo : Nat) : (run lib).fn 146 [.ref id 1 1 0 N N] h lo = some (.ref id 1 1 0 (trimL l).length N,h) := by
 subst hN
 have e := fun cx => trimR_loop hl cx h id hid l.length (Nat.le_refl _)
 have hlt : id < h.length := (List.getElem?_eq_some_iff.mp hid).1
 have hg : ∀ t N,giveRes h.length (.ref id 1 1 0 t N) h = some (.ref id 1 1 0 t N) := fun t N => by
  simp [giveRes,give,frz,show ¬ h.length ≤ id by omega]
 have ht : (trimL l).length = trimK l l.length := by
  have := trimK_le l l.length
  simp [trimL]; omega
 rw [run_closed (x := x146) rfl rfl rfl rfl,ht]
 simp (maxSteps := 1000000) (disch := omega) only [go_sem,x146,e,hg,Option.map_some]
def ovQ (a m : Nat) : AV := if (grp (a / m)).length = (grp a).length then .own 1 (ints (grp (a / m))) else .lst 1 (ints (grp (a / m)))
def remA (a m : Nat) : AV := if a = 0 then .own 0 [] else .lst 1 (ints (grp (a % m)))
def remV (a m : Nat) : AV := if a = 0 then .lst 0 [] else .lst 1 (ints (grp (a % m)))
@[go_sem] theorem weak1_ovQ (a m : Nat) : weak1 (ovQ a m) = .lst 1 (ints (grp (a / m))) := by unfold ovQ; split <;> rfl
@[go_sem] theorem weak1_remA (a m : Nat) : weak1 (remA a m) = remV a m := by unfold remA remV; split <;> rfl
@[go_sem] theorem remV_val (a m : Nat) : (remV a m).val = true := by unfold remV; split <;> rfl
@[go_sem] theorem remV_cells (a m : Nat) : (remV a m).cells = [remV a m] := by unfold remV; split <;> rfl
@[go_sem] theorem remV_closed (a m : Nat) : (remV a m).closed = true := by unfold remV; split <;> rfl
theorem remV_pure (a m : Nat) : PureSl 1 (remV a m) (ints (grp (a % m))) := by
 unfold remV
 by_cases h : a = 0
 ·rw [if_pos h]; subst h
  rw [Nat.zero_mod,grp_zero]
  exact .inr ⟨0,.inl rfl,.inr rfl⟩
 ·rw [if_neg h]; exact .inr ⟨1,.inl rfl,.inl rfl⟩
theorem lst_pure (l : List Int) : PureSl 1 (.lst 1 (ints l)) (ints l) := .inr ⟨1,.inl rfl,.inl rfl⟩
theorem ov_fold {u : AV} {a m N : Nat} (hm : m ≠ 0) (hN : N = (grp a).length) (s0 : OvS) (h0 : ovI a m N N s0) : ∀ k s,k ≤ N → ovI a m N k s → ovI a m N 0 (backF (fun s k => (true,ovT u m ((grp a).getD k 0).toNat k s)) k s)
 | 0,s,_,h => h
 | k + 1,s,hk,h => by
  simp only [backF,if_true]
  exact ov_fold hm hN s0 h0 k _ (by omega) (ovI_step hm hN k s (by omega) _ rfl h)
end Go.VI.Dump
namespace Go.VI.Dump
open Go.VI.Num
theorem PureSl_closed {z : Nat} {v : AV} {es : List AV} (p : PureSl z v es) : v.closed = true := by
 rcases p with ⟨rfl,rfl⟩ | ⟨z',rfl | rfl,hz⟩ <;> rfl
theorem ov_rv {u : AV} {m : Nat} {D : Nat → Nat} : ∀ (k : Nat) (s : OvS),0 < k → (backF (fun s k => (true,ovT u m (D k) k s)) k s).rv = .lst 1 (ints (grp (backF (fun s k => (true,ovT u m (D k) k s)) k s).R))
 | 0,s,h => by omega
 | 1,s,h => by simp only [backF,if_true]; rfl
 | k + 2,s,h => by
  rw [backF,if_pos rfl]
  exact ov_rv (k + 1) _ (by omega)
theorem ov_give {h fr : Heap} {l : List Int} {t N : Nat} {rv rv' : AV} (hl : l.length = N) (ht : t ≤ N) (hf : fr[3]? = some (1,.arr 1 (ints l))) (hr : ∀ H : Heap,give h.length rv H = some (rv',H)) :
  giveRes h.length (.tuple [.ref (h.length + 3) 1 1 0 t N,rv]) (h ++ fr) = some (.tuple [if t = N then .own 1 (ints l) else .lst 1 (ints (l.take t)),rv']) := by
 have hg : (h ++ fr)[h.length + 3]? = some (1,.arr 1 (ints l)) := by rw [get_fr]; exact hf
 have ha : asList0 (h ++ fr) (.ref (h.length + 3) 1 1 0 t N) = some (ints (l.take t)) := by
  simp [asList0,hg,hl,ht,ints,List.map_take]
 have hgv : give h.length (.ref (h.length + 3) 1 1 0 t N) (h ++ fr) = some (if t = N then .own 1 (ints l) else .lst 1 (ints (l.take t)),(h ++ fr).set (h.length + 3) (1,.dead)) := by
  by_cases c : t = N
  ·subst c
   rw [if_pos rfl]
   rw [← hl,List.take_length] at ha
   rw [← hl]
   simp only [give,ha]
   simp
  ·rw [if_neg c]
   simp only [give]
   rw [if_neg (by omega)]
   simp [frz,ha]
 simp only [giveRes,giveL,hgv,hr,Option.bind_some,Option.map_some]
theorem over_run {v u : AV} {a m : Nat} (hm0 : m ≠ 0) (hv : PureSl 1 v (ints (grp a))) (hu : PureSl 1 u (ints (grp m))) (ha : (grp a).length ≤ 15000) (hm : (grp m).length ≤ 15000) (h : Heap) (lo : Nat) :
  (run lib).fn 110 [v,u] h lo = some (.tuple [ovQ a m,remA a m],h) := by
 obtain ⟨v',f1,f1',f2,f3,f4,f5⟩ := PureSl_frz2 hv
 obtain ⟨u',g1,g1',g2,g3,g4,g5⟩ := PureSl_frz2 hu
 have uc := PureSl_closed g4
 obtain ⟨N,hN⟩ : ∃ N,N = (grp a).length := ⟨_,rfl⟩
 have i0 : ovI a m N N ⟨List.replicate N 0,0,.nilSl,(0,.dead),0⟩ := by
  refine ⟨by simp,.inl ⟨rfl,rfl⟩,rfl, ?_, ?_, ?_⟩
  ·rw [List.drop_of_length_le (by omega)]; simp [gv]
  ·rw [List.drop_of_length_le (by simp),List.drop_of_length_le (by omega)]; simp [gv]
  ·rw [List.drop_of_length_le (by simp)]; exact Dig.nil
 have hbk := back_run (H := ovH h v' u' N) (nb := h.length + 6) (lo := h.length) (id := h.length + 0) (Y := fun s k => (true,ovT u' m ((grp a).getD k 0).toNat k s)) (Iv := ovI a m N) f4 (by omega) (fun s => by simp [ovH]) (by omega)
  (fun k s hk hi _ => ovI_step hm0 hN k s (by omega) _ rfl hi)
  (fun k s hk hi => by
   have gm : (grp a).getD k 0 = (grp a)[k] := by rw [List.getD_eq_getElem?_getD,List.getElem?_eq_getElem hk]; rfl
   have hx := dig_grp a (grp a)[k] (List.getElem_mem hk)
   have hR : s.R < m := by rw [hi.2.2.2.1]; exact Nat.mod_lt _ (by omega)
   have y := ov_yield (v := v') (u := u') hm0 g4 uc hm N (by omega) h s hi.1 hi.2.1 hR hi.2.2.1 k (by omega) ((grp a).getD k 0).toNat (by rw [gm]; omega) h.length (Nat.le_refl _)
   have e : (((grp a).getD k 0).toNat : Int) = (grp a)[k] := by rw [gm]; omega
   rw [e] at y
   exact y)
  ⟨List.replicate N 0,0,.nilSl,(0,.dead),0⟩ (by rw [← hN]; exact i0)
 have hfin := ov_fold (u := u') hm0 hN _ i0 (grp a).length ⟨List.replicate N 0,0,.nilSl,(0,.dead),0⟩ (by omega) (by rw [← hN]; exact i0)
 have hrv : ∀ H : Heap,give h.length (backF (fun s k => (true,ovT u' m ((grp a).getD k 0).toNat k s)) (grp a).length ⟨List.replicate N 0,0,.nilSl,(0,.dead),0⟩).rv H = some (remA a m,H) := by
  intro H
  by_cases c : a = 0
  ·subst c
   rfl
  ·have hne : grp a ≠ [] := fun e => c (grp_nil.mp e)
   have hR := hfin.2.2.2.1
   rw [List.drop_zero,gv_grp,Int.toNat_natCast] at hR
   rw [ov_rv _ _ (List.length_pos_iff.mpr hne),hR]
   unfold remA
   rw [if_neg c]
   simp [give,frz]
 obtain ⟨s',hs'⟩ : ∃ s',s' = backF (fun s k => (true,ovT u' m ((grp a).getD k 0).toNat k s)) (grp a).length ⟨List.replicate N 0,0,.nilSl,(0,.dead),0⟩ := ⟨_,rfl⟩
 rw [← hs'] at hbk hfin hrv
 clear hs'
 obtain ⟨q,R,rv,s1,w2⟩ := s'
 obtain ⟨hq,hp,hval,hR,hQ,hdig⟩ := hfin
 simp only [List.drop_zero,gv_grp,Int.toNat_natCast] at hq hp hval hR hQ hdig hrv
 have htr : trimL q = grp (a / m) := by rw [trimL_eq hdig,hQ,Int.toNat_natCast]
 have htl : (trimL q).length ≤ N := by simp [trimL]; omega
 have htk : q.take (grp (a / m)).length = grp (a / m) := by
  rw [← htr]; unfold trimL
  rw [List.length_take,Nat.min_eq_left (trimK_le _ _)]
 have bw := backward_run v v' f1 f1' f2 f5
 have s1' := lenv_sl (hv.sl []).len
 simp only [ints_len,← hN] at s1'
 have rep : ints (List.replicate N 0) = List.replicate N (AV.int .i64 0) := by simp [ints]
 have g3' := w_rfn (L := lib) (lo := h.length) (ns := 6) (s := 0) (g := 7) (it := 175) (v := 0) (caps := [.cptr [v']]) (env := ovE h v' u') (h := h) (b := .dead) (fr := [(0,.dead),(0,.dead),(0,.dead),(1,.arr 1 (ints (List.replicate N 0))),(1,.box [.ref (h.length + 3) 1 1 0 N N]),(1,.box [.nilSl])])
  (fr' := [(1,.rcd ⟨7,h.length,h.length,6,ovE h v' u'⟩ .ready),s1,(w2,.dead),(1,.arr 1 (ints q)),(1,.box [.ref (h.length + 3) 1 1 0 N N]),(1,.box [rv])]) (f := .t 14) rfl (by omega) rfl hbk rfl
 simp only [ovE,List.set_cons_zero,rep] at g3'
 have hmk := fun hh => mks_ok (h := hh) (cx := ⟨h.length,h.length,6,none⟩) (s := 3) (z := 1) (zero := .int .i64 0) (lim := 17592186044416) (k := .i64) (k' := .i64) (a := (N : Int)) (b := (N : Int)) (by omega) (by omega) (by omega)
 have tr := fun H hid lo => trimR_run (l := q) (by omega) H (h.length + 3) hid N hq lo
 have tr1 := tr (h ++ [(1,.dead),s1,(w2,.dead),(1,.arr 1 (ints q)),(1,.box [.ref (h.length + 3) 1 1 0 N N]),(1,.box [rv])]) (by rw [get_fr]; rfl)
 have og := ov_give (h := h) (fr := [(1,.dead),s1,(w2,.dead),(1,.arr 1 (ints q)),(1,.box [.ref (h.length + 3) 1 1 0 (trimL q).length N]),(1,.box [rv])]) (l := q) hq htl rfl hrv
 have hrc : rv.cells = [rv] := by rcases hp with ⟨rfl,_⟩ | ⟨z',rfl | rfl,hz⟩ <;> rfl
 have hQv : (if (trimL q).length = N then AV.own 1 (ints q) else .lst 1 (ints (q.take (trimL q).length))) = ovQ a m := by
  unfold ovQ
  rw [htr,← hN]
  by_cases c : (grp (a / m)).length = N
  ·rw [if_pos c,if_pos c]
   rw [c,← hq,List.take_length] at htk
   rw [htk]
  ·rw [if_neg c,if_neg c,htk]
 rw [hQv] at og
 have n1 : ¬ h.length = h.length + 4 := by omega
 have n2 : ¬ h.length + 4 = h.length + 5 := by omega
 have n3 : ¬ h.length + 5 = h.length + 4 := by omega
 rw [run_closed (x := x110) rfl rfl rfl rfl]
 simp (maxSteps := 1000000) (disch := omega) only [go_sem,x110,f1,f2,f5,g1,g2,g5,s1',hmk,mkr,bw,g3',tr1,hrc,hval,n1,n2,n3,og]
end Go.VI.Dump
namespace Go.VI
theorem beq_dec {α : Type} [BEq α] [LawfulBEq α] [DecidableEq α] (a b : α) : (a == b) = decide (a = b) := by rw [Bool.eq_iff_iff]; simp
@[go_sem] theorem bin_seql (a b : List UInt8) : binv .eql (.str a) (.str b) = some (.bool (decide (a = b))) := by simp only [binv,beq_dec]
@[go_sem] theorem bin_sneq (a b : List UInt8) : binv .neq (.str a) (.str b) = some (.bool (decide (a ≠ b))) := by simp only [binv,beq_dec]; simp
theorem bin_sadd {a b : List UInt8} (h : a.length + b.length ≤ 1000000000000) : binv .add (.str a) (.str b) = some (.str (a ++ b)) := by simp [binv,h]
theorem run_orc {L : Lib} {f : Nat} {args : List AV} {h : Heap} {lo : Nat} {r : AV} (ho : L.orc f args h = some r) : (run L).fn f args h lo = some (r,h) := by rw [run_eq,ho]
theorem ixst0 {k : IntKind} (c : UInt8) (r : List UInt8) (h : Heap) : ixst (.int k 0) h (.str (c :: r)) = some (.int .u8 c.toNat,h) := by simp [ixst,ixstr,idx]
theorem sstr_from {k : IntKind} {l : List UInt8} {i : Nat} (hi : i ≤ l.length) : slicev none (.str l) (some (.int k i)) none = some (.str (l.drop i)) := by
 simp [slicev,bnd]; omega
theorem sstr_to {k : IntKind} {l : List UInt8} {i : Nat} (hi : i ≤ l.length) : slicev none (.str l) none (some (.int k i)) = some (.str (l.take i)) := by
 simp [slicev,bnd,hi]
end Go.VI
namespace Go.VI.Dump
open Go.VI.Num
theorem tp_run (s p : List UInt8) (h : Heap) (lo : Nat) : (run lib).fn 163 [.str s,.str p] h lo = some (.str (Lib.trimPrefix s p),h) := run_orc rfl
theorem trimo_run {s c : List UInt8} (hs : s.length ≤ 1000) (hc : c.length ≤ 1000) (ha : c.all (fun b => decide (b.toNat < 128)) = true) (h : Heap) (lo : Nat) : (run lib).fn 164 [.str s,.str c] h lo = some (.str (Lib.trimS s c),h) := by
 refine run_orc ?_
 show orcV .trim [.str s,.str c] h = some _
 simp only [orcV]
 rw [if_pos ⟨by unfold strLim; omega,by unfold strLim; omega,ha⟩]
theorem isvalid_run (s : List UInt8) (h : Heap) (lo : Nat) : (run lib).fn 134 [.str s] h lo = some (.bool (validS s),h) := by
 have tp := fun H lo => tp_run s [45] H lo
 have hb : body s = Lib.trimPrefix s [45] := rfl
 rw [← hb] at tp
 rw [run_closed (x := x134) rfl rfl rfl rfl]
 unfold validS
 generalize body s = d at *
 by_cases c1 : d = []
 ·subst c1
  simp (maxSteps := 1000000) (disch := omega) only [go_sem,x134,tp,List.isEmpty_nil]
 ·have c1' : d.isEmpty = false := by cases d with | nil => exact absurd rfl c1 | cons => rfl
  by_cases c2 : d.length ≤ 200
  ·have c2' : ¬ (200 : Int) < d.length := by omega
   have tr := trimo_run (s := d) (c := [48,49,50,51,52,53,54,55,56,57]) (by omega) (by decide) (by decide)
   have hds : ds = [48,49,50,51,52,53,54,55,56,57] := rfl
   rw [← hds] at tr
   rw [c1',decide_eq_true c2]
   by_cases c3 : Lib.trimS d ds = []
   ·rw [c3] at tr ⊢
    have hs : (s == [48]) = decide (s = [48]) := beq_dec s [48]
    rw [hs]
    by_cases c4 : s = [48]
    ·subst c4
     simp (maxSteps := 1000000) (disch := omega) only [go_sem,x134,tp,c1,c2',← hds,tr,List.isEmpty_nil]
    ·obtain ⟨c,r,rfl⟩ := List.exists_cons_of_ne_nil c1
     have hx := fun H => ixst0 (k := .i64) c r H
     have e : ((c :: r).head? == some 48) = decide (c = 48) := by rw [beq_dec]; simp
     have e2 : decide (((c.toNat : Nat) : Int) = 48) = decide (c = 48) := by
      rw [decide_eq_decide,← UInt8.toNat_inj]
      have : (48 : UInt8).toNat = 48 := rfl
      omega
     rw [e]
     have e3 : decide (((c.toNat : Nat) : Int) ≠ 48) = !decide (c = 48) := by rw [← e2]; simp
     have c2'' : ¬ (200 : Int) < (r.length : Int) + 1 := by simp at c2; omega
     simp (maxSteps := 1000000) (disch := omega) only [go_sem,x134,tp,c1,cast1,c2'',← hds,tr,c4,List.isEmpty_nil,hx]
     simp [e2]
   ·have c3' : (Lib.trimS d ds).isEmpty = false := by cases hh : Lib.trimS d ds with | nil => exact absurd hh c3 | cons => rfl
    rw [c3']
    simp (maxSteps := 1000000) (disch := omega) only [go_sem,x134,tp,c1,c2',← hds,tr,c3]
  ·have c2' : (200 : Int) < d.length := by omega
   rw [decide_eq_false c2]
   simp (maxSteps := 1000000) (disch := omega) only [go_sem,x134,tp,c1,c2']
end Go.VI.Dump
namespace Go.VI.Dump
open Go.VI.Num
theorem atoi_run {s : List UInt8} (hd : Digs s) (hn : s ≠ []) (hl : s.length ≤ 18) (h : Heap) (lo : Nat) : (run lib).fn 174 [.str s] h lo = some (.tuple [.int .i64 (dv 0 s : Nat),.nilIf],h) := by
 refine run_orc ?_
 have e := atoi_digits hd hn hl
 show orcV (.atoi _) [.str s] h = some _
 simp only [orcV]
 rw [if_pos (by unfold strLim; omega),e]
def psF (h : Heap) (neg : Bool) (acc : List Int) (B : Nat × Blk) : Heap := [accB (0,.dead) 1 (ints acc),(1,.box [.bool neg,accV (h.length + 0) (0,.dead) 1 (ints acc)]),B]
theorem parse_loop (neg : Bool) (B : Nat × Blk) (h : Heap) : ∀ (f : Nat) (l : List UInt8) (acc : List Int),l.length ≤ f → Digs l → acc.length + l.length ≤ 1000 →
  runC lib ⟨h.length,h.length,3,none⟩ (.loop b144_0) ([(2,.bptr (h.length + 2) 1 0),(3,.str l),(4,.bptr (h.length + 1) 1 0)],h ++ psF h neg acc B) =
   some (.exit 0,([(2,.bptr (h.length + 2) 1 0),(4,.bptr (h.length + 1) 1 0)],h ++ psF h neg (acc ++ parseG f l) B)) := by
 intro f
 induction f with
 | zero =>
  intro l acc hl hd ha
  have : l = [] := List.length_eq_zero_iff.mp (by omega)
  subst this
  rw [w_loop]
  simp only [parseG,List.append_nil]
  simp (maxSteps := 1000000) (disch := omega) only [go_sem,psF,Int.lt_irrefl]
 | succ f ih =>
  intro l acc hl hd ha
  by_cases h0 : l = []
  ·subst h0
   rw [w_loop]
   simp only [parseG,if_true,List.append_nil]
   simp (maxSteps := 1000000) (disch := omega) only [go_sem,psF,Int.lt_irrefl]
  ·have hlen : 0 < l.length := List.length_pos_iff.mpr h0
   have hd1 : Digs (l.take (l.length - 4)) := fun x hx => hd x (List.mem_of_mem_take hx)
   have hd2 : Digs (l.drop (l.length - 4)) := fun x hx => hd x (List.mem_of_mem_drop hx)
   have c1 : (0 : Int) < l.length := by omega
   have em : max (0 : Int) ((l.length : Int) - 4) = ((l.length - 4 : Nat) : Int) := by omega
   have s1 := sstr_from (k := .i64) (show l.length - 4 ≤ l.length by omega)
   have s2 := sstr_to (k := .i64) (show l.length - 4 ≤ l.length by omega)
   have at1 := atoi_run hd2 (by intro e; have := congrArg List.length e; simp at this; omega) (by simp; omega)
   have k := ih (l.take (l.length - 4)) (acc ++ [(dv 0 (l.drop (l.length - 4)) : Int)]) (by simp; omega) hd1 (by simp; omega)
   have e : acc ++ parseG (f + 1) l = (acc ++ [(dv 0 (l.drop (l.length - 4)) : Int)]) ++ parseG f (l.take (l.length - 4)) := by simp [parseG,h0]
   rw [e]
   have ea := fun x : Int => app_acc (lo := h.length) (ns := 3) (s := 0) (z := 1) (lim := 17592186044416) (h := h) (fr := psF h neg acc B) (b0 := (0,.dead)) (es := ints acc) (xs := [.int .i64 x]) (by omega) (Nat.le_refl _) rfl (by simp; omega)
   simp only [← ints_one,← ints_app,psF,List.set_cons_zero] at ea
   generalize l.drop (l.length - 4) = y at *
   generalize dv 0 y = x at *
   have hi : [AV.int .i64 (x : Int)] = ints [(x : Int)] := rfl
   simp only [psF] at k
   rw [w_loop]
   simp (maxSteps := 1000000) (disch := omega) only [go_sem,psF,c1,em,s1,s2,at1,hi,ints_len,ea,splice_ok,k]
def aggV (z : Int) : AV := .agg [.bool (decide (z < 0)),.lst 1 (ints (grp z.natAbs))]
theorem parse_run {z : Int} (hz : z.natAbs < 10 ^ 200) (h : Heap) (lo : Nat) : (run lib).fn 144 [.str (itxt z)] h lo = some (aggV z,h) := by
 have tp := fun H lo => tp_run (itxt z) [45] H lo
 have hb : Lib.trimPrefix (itxt z) [45] = dec z.natAbs := body_itxt z
 rw [hb] at tp
 have hneg : decide (((dec z.natAbs).length : Int) < (itxt z).length) = decide (z < 0) := by
  rw [decide_eq_decide]
  unfold itxt
  by_cases c : z < 0
  ·rw [if_pos c]; simp; omega
  ·rw [if_neg c]; simp; omega
 have hl := (dec_len (n := z.natAbs) (k := 200) (by omega)).mpr hz
 obtain ⟨k1,k2⟩ := parseG_ok _ (dec z.natAbs) (Nat.le_refl _) (digs_dec _)
 rw [dv_dec] at k1
 have htr := trimL_eq k2
 rw [k1,Int.toNat_natCast] at htr
 have hne : parseG (dec z.natAbs).length (dec z.natAbs) ≠ [] := by
  have := dec_ne z.natAbs
  obtain ⟨c,r,e⟩ := List.exists_cons_of_ne_nil this
  rw [e]
  simp [parseG]
 have pl := fun B => parse_loop (decide (z < 0)) B h _ (dec z.natAbs) [] (Nat.le_refl _) (digs_dec _) (by simp; omega)
 have hpl : (parseG (dec z.natAbs).length (dec z.natAbs)).length ≤ 1000 := by
  have : ∀ f l,(parseG f l).length ≤ f := by
   intro f
   induction f with
   | zero => intro l; exact Nat.le_refl _
   | succ f ih =>
    intro l
    simp only [parseG]
    split
    ·simp
    ·have := ih (l.take (l.length - 4)); simp; omega
  have := this (dec z.natAbs).length (dec z.natAbs)
  omega
 simp only [List.nil_append] at pl
 generalize dec z.natAbs = d at *
 generalize parseG d.length d = P at *
 have hPne : ints P ≠ [] := by intro e; exact hne (by simpa [ints] using e)
 simp only [psF,accV_ne hPne,accB_ne hPne,ints_len] at pl
 have i0 : accV (h.length + 0) (0,.dead) 1 (ints []) = .nilSl := rfl
 have j0 : accB (0,.dead) 1 (ints []) = (0,.dead) := rfl
 rw [i0,j0] at pl
 have tr := fun H hid lo => trimR_run (l := P) (by omega) H (h.length + 0) hid P.length rfl lo
 have tr1 := fun b2 b3 => tr (h ++ [(0 + 1,.arr 1 (ints P)),b2,b3]) (by rw [get_fr]; rfl)
 have htl : (trimL P).length ≤ P.length := by simp [trimL]; omega
 have htk : P.take (trimL P).length = grp z.natAbs := by
  rw [← htr]; unfold trimL
  rw [List.length_take,Nat.min_eq_left (trimK_le _ _)]
 have hfz : ∀ b2 b3,frz h.length true (.ref (h.length + 0) 1 1 0 (trimL P).length P.length) (h ++ [(0 + 1,.arr 1 (ints P)),b2,b3]) = some (.lst 1 (ints (grp z.natAbs)),h ++ [(1,.dead),b2,b3]) := fun b2 b3 => by
  have hg : (h ++ [(0 + 1,Blk.arr 1 (ints P)),b2,b3])[h.length + 0]? = some (1,.arr 1 (ints P)) := by rw [get_fr]; rfl
  have ha : asList0 (h ++ [(0 + 1,Blk.arr 1 (ints P)),b2,b3]) (.ref (h.length + 0) 1 1 0 (trimL P).length P.length) = some (ints (grp z.natAbs)) := by
   simp only [asList0,hg]
   rw [if_pos (by simp [htl]),← htk]
   simp [ints,List.map_take]
  simp only [frz]
  rw [if_pos (by omega),ha,set_fr]
  rfl
 rw [run_closed (x := x144) rfl rfl rfl rfl]
 unfold aggV
 simp (maxSteps := 1000000) (disch := omega) only [go_sem,x144,tp,hneg,splice_ok,pl,tr1,hfz]
theorem both_run {x y : Int} (hx : x.natAbs < 10 ^ 200) (hy : y.natAbs < 10 ^ 200) (h : Heap) (lo : Nat) : (run lib).fn 109 [.str (itxt x),.str (itxt y)] h lo = some (.tuple [aggV x,aggV y,.bool true],h) := by
 have v1 := fun H lo => isvalid_run (itxt x) H lo
 have v2 := fun H lo => isvalid_run (itxt y) H lo
 have p1 := fun H lo => parse_run hx H lo
 have p2 := fun H lo => parse_run hy H lo
 rw [validS_itxt hx] at v1
 rw [validS_itxt hy] at v2
 simp only [aggV] at p1 p2 ⊢
 rw [run_closed (x := x109) rfl rfl rfl rfl]
 simp (maxSteps := 1000000) (disch := omega) only [go_sem,x109,v1,v2,p1,p2,splice_ok]
end Go.VI.Dump
namespace Go.VI
def bldBuf (h : Heap) (W : List UInt8) (w : Nat) : Nat × Blk := if W = [] then (0,.dead) else (w,.rcd (Rcd.at (h.length + 1) (.buf W)) (.spc (.buf W)))
def bldBld (h : Heap) (W : List UInt8) (w : Nat) : Nat × Blk := (1,.rcd (Rcd.at (h.length + 2) (.bld (h.length + 2) 1 (if W = [] then none else some (h.length + 1,w)))) (.spc (.bld (h.length + 2) 1 (if W = [] then none else some (h.length + 1,w)))))
theorem bwr_step {h : Heap} {p : Nat × Nat} {R : Nat × Blk} {W l : List UInt8} {w : Nat} (hl : l ≠ []) (hb : W.length + l.length ≤ bldLim) (hw : W = [] → w = 0) :
  bwrv ⟨h.length,h.length,3,some p⟩ 1 (.yld (h.length + 2) 1) (.str l) (h ++ [R,bldBuf h W w,bldBld h W w]) = some (.tuple [.int .i64 l.length,.nilIf],h ++ [R,bldBuf h (W ++ l) (w + 1),bldBld h (W ++ l) (w + 1)]) := by
 have hne : W ++ l ≠ [] := by simp [hl]
 by_cases h0 : W = []
 ·have := hw h0
  subst h0
  subst this
  have hg : (h ++ [R,(0,Blk.dead),bldBld h [] 0])[h.length + 2]? = some (bldBld h [] 0) := by rw [get_fr]; rfl
  have hm := mkAt_r (lo := h.length) (ns := 3) (s := 1) (p := p) (b := .rcd (Rcd.at (h.length + 1) (.buf l)) (.spc (.buf l))) (h := h) (fr := [R,(0,Blk.dead),bldBld h [] 0]) rfl
  simp only [List.getElem?_cons_succ,List.getElem?_cons_zero,mkF_some,List.set_cons_succ,List.set_cons_zero,List.length_nil,Nat.zero_add] at hm hb
  rw [if_pos (by omega)] at hm
  simp only [bldBuf,if_true,hg,List.nil_append,if_neg hl]
  simp only [bldBld,if_true] at hg hm ⊢
  simp [bwrv,hg,hl,hb,hm,set_fr]
  rfl
 ·have hg : (h ++ [R,bldBuf h W w,bldBld h W w])[h.length + 2]? = some (bldBld h W w) := by rw [get_fr]; rfl
  have hg1 : (h ++ [R,bldBuf h W w,bldBld h W w])[h.length + 1]? = some (bldBuf h W w) := by rw [get_fr]; rfl
  simp only [bldBuf,bldBld,if_neg h0,if_neg hne] at hg hg1 ⊢
  simp [bwrv,hg,hg1,h0,hb,set_fr,Rcd.at]
  rfl
theorem bstr_end {h : Heap} {R : Nat × Blk} {W : List UInt8} {w : Nat} (hl : W ≠ []) :
  bstrv ⟨h.length,h.length,3,none⟩ (.yld (h.length + 2) 1) (h ++ [R,bldBuf h W w,bldBld h W w]) = some (.str W) := by
 have hg : (h ++ [R,bldBuf h W w,bldBld h W w])[h.length + 2]? = some (bldBld h W w) := by rw [get_fr]; rfl
 have hg1 : (h ++ [R,bldBuf h W w,bldBld h W w])[h.length + 1]? = some (bldBuf h W w) := by rw [get_fr]; rfl
 simp only [bldBuf,bldBld,if_neg hl] at hg hg1 ⊢
 simp [bstrv,hg,hg1,hl]
end Go.VI
namespace Go.VI.Dump
open Go.VI.Num
theorem itoa_run {n : Int} (h0 : -9223372036854775808 ≤ n) (h1 : n ≤ 9223372036854775807) (h : Heap) (lo : Nat) : (run lib).fn 104 [.int .i64 n] h lo = some (.str (itxt n),h) := by
 refine run_orc ?_
 show orcV .itoa [.int .i64 n] h = some _
 simp only [orcV]
 rw [if_pos ⟨h0,h1⟩]
 have e : itoaL n = itxt n := by
  unfold itoaL itxt
  have e20 : (10 : Nat) ^ 20 = 100000000000000000000 := by decide
  by_cases c : n < 0
  ·rw [if_pos c,if_pos c,dec_eq (by rw [e20]; omega) (by omega)]
  ·have : n.toNat = n.natAbs := by omega
   rw [if_neg c,if_neg c,dec_eq (by rw [e20]; omega) (by omega),this]
 rw [e]
theorem repeatL_one (c : UInt8) : ∀ n,Lib.repeatL [c] n = List.replicate n c
 | 0 => rfl
 | n + 1 => by rw [Lib.repeatL,repeatL_one c n]; rfl
theorem repeat_run {n : Nat} (hn : n ≤ 1000) (c : UInt8) (h : Heap) (lo : Nat) : (run lib).fn 123 [.str [c],.int .i64 n] h lo = some (.str (List.replicate n c),h) := by
 refine run_orc ?_
 show orcV .repeat_ [.str [c],.int .i64 n] h = some _
 simp only [orcV]
 rw [if_pos ⟨by omega,by simp [bldLim]; omega,by omega,by simp⟩,Int.toNat_natCast,repeatL_one]
theorem itxt_nat (d : Nat) : itxt (d : Int) = dec d := by
 unfold itxt
 rw [if_neg (by omega),Int.natAbs_natCast]
def tpc (l : List Int) (k : Nat) : List UInt8 := if k + 1 < l.length then pad4 (l.getD k 0).toNat else dec (l.getD k 0).toNat
def txE (h : Heap) (v : AV) (neg : Bool) : Env := [(1,.cptr [.bool neg,v]),(2,.str []),(3,.int .i64 0),(4,.yld (h.length + 2) 1),(15,.fn 175 [.cptr [v]])]
def txH (h : Heap) (v : AV) (neg : Bool) (s : List UInt8 × Nat) : Heap := h ++ [(1,.rcd ⟨8,h.length,h.length,3,txE h v neg⟩ .ready),bldBuf h s.1 s.2,bldBld h s.1 s.2]
theorem dec4 {d : Nat} (h : d ≤ 9999) : (dec d).length ≤ 4 := (dec_len (by omega)).mpr (by have : (10:Nat)^4 = 10000 := (by decide); omega)
theorem tx_yield {v : AV} {l : List Int} {neg : Bool} (hv : PureSl 1 v (ints l)) (hl : l.length ≤ 10000) (h : Heap) (k : Nat) (hk : k < l.length) (d : Nat) (hd : d ≤ 9999) (hg : (l.getD k 0).toNat = d) (s : List UInt8 × Nat) (hs : s.1.length ≤ 100000) (hw : s.1 = [] → s.2 = 0) (lo : Nat) (hlo : lo ≤ h.length) :
  yieldv (run lib) ⟨lo,h.length + 3,0,none⟩ (h.length + 0) 1 [.int .i64 k,.int .i64 d] (txH h v neg s) = some (.bool true,txH h v neg (s.1 ++ tpc l k,s.2 + 1)) := by
 obtain ⟨W,w⟩ := s
 obtain ⟨D,hD⟩ : ∃ D : Rcd,D = ⟨8,h.length,h.length,3,txE h v neg⟩ := ⟨_,rfl⟩
 simp only [] at hs hw
 simp only [txH,← hD,tpc,hg]
 have s1 := lenv_sl (hv.sl []).len
 rw [ints_len] at s1
 have ha' : runC lib ⟨h.length,h.length,3,some (h.length + 0,1)⟩ r8.asg ((r8.ps.zip [.int .i64 k,.int .i64 d]).foldl (fun e p => e.set p.1 p.2) (txE h v neg),h ++ [(1,.rcd D .ready),bldBuf h W w,bldBld h W w]) =
   some (.norm,([(1,.cptr [.bool neg,v]),(4,.yld (h.length + 2) 1),(5,.int .i64 k),(6,.int .i64 d)],h ++ [(1,.rcd D .ready),bldBuf h W w,bldBld h W w])) := by
  simp (maxSteps := 1000000) (disch := omega) only [go_sem,r8,txE,List.zip_cons_cons,List.zip_nil_right,List.foldl_cons,List.foldl_nil]
 have hg0 : (h ++ [(1,Blk.rcd D .ready),bldBuf h W w,bldBld h W w])[h.length + 0]? = some (1,.rcd ⟨8,h.length,h.length,3,txE h v neg⟩ .ready) := by rw [get_fr,← hD]; rfl
 have it := fun H lo => itoa_run (n := (d : Int)) (by omega) (by omega) H lo
 rw [itxt_nat] at it
 have hd4 := dec4 hd
 have hb : runC lib ⟨h.length,h.length,3,some (h.length + 0,1)⟩ r8.body ([(1,.cptr [.bool neg,v]),(4,.yld (h.length + 2) 1),(5,.int .i64 k),(6,.int .i64 d)],(h ++ [(1,.rcd D .ready),bldBuf h W w,bldBld h W w]).set (h.length + 0) (1,.rcd D .busy)) =
   some (.norm,([],h ++ [(1,.rcd D .busy),bldBuf h (W ++ if k + 1 < l.length then pad4 d else dec d) (w + 1),bldBld h (W ++ if k + 1 < l.length then pad4 d else dec d) (w + 1)])) := by
  rw [set_fr]
  by_cases c : k + 1 < l.length
  ·rw [if_pos c]
   have c1 : (k : Int) < (l.length : Int) - 1 := by omega
   have rp := fun H lo => repeat_run (n := 4 - (dec d).length) (by omega) 48 H lo
   have e4 : (4 : Int) - ((dec d).length : Int) = ((4 - (dec d).length : Nat) : Int) := by omega
   have ad : binv .add (.str (List.replicate (4 - (dec d).length) 48)) (.str (dec d)) = some (.str (pad4 d)) := by
    rw [bin_sadd (by simp; omega),pad_dec (by omega)]
   have bs := bwr_step (h := h) (p := (h.length + 0,1)) (R := (1,.rcd D .busy)) (W := W) (l := pad4 d) (w := w) (by simp [pad4]) (by simp [pad4,bldLim]; omega) hw
   simp (maxSteps := 1000000) (disch := omega) only [go_sem,r8,it,s1,c1,e4,rp,ad,bs]
  ·rw [if_neg c]
   have c1 : ¬ (k : Int) < (l.length : Int) - 1 := by omega
   have bs := bwr_step (h := h) (p := (h.length + 0,1)) (R := (1,.rcd D .busy)) (W := W) (l := dec d) (w := w) (dec_ne d) (by simp [bldLim]; omega) hw
   simp (maxSteps := 1000000) (disch := omega) only [go_sem,r8,it,s1,c1,bs]
 have := yield_round (L := lib) (cx := ⟨lo,h.length + 3,0,none⟩) hg0 hlo (by omega) (by omega) (by simp [AV.closedL,AV.closed]) (x := r8) rfl rfl ha' (by rw [get_fr]; rfl) hb (by rw [get_fr]; rfl)
 rw [this,set_fr]
 rfl
def txI (l : List Int) (k : Nat) (s : List UInt8 × Nat) : Prop := s.1 = txtG (l.drop k) ∧ s.1.length ≤ 4 * (l.length - k) ∧ (s.1 = [] → s.2 = 0)
theorem txI_step {l : List Int} (hd : Dig l) (k : Nat) (s : List UInt8 × Nat) (hk : k < l.length) (hi : txI l (k + 1) s) : txI l k (s.1 ++ tpc l k,s.2 + 1) := by
 obtain ⟨h1,h2,h3⟩ := hi
 have gm : l.getD k 0 = l[k] := by rw [List.getD_eq_getElem?_getD,List.getElem?_eq_getElem hk]; rfl
 have hx := hd l[k] (List.getElem_mem hk)
 have hlen : (tpc l k).length ≤ 4 := by
  unfold tpc
  split
  ·simp [pad4]
  ·exact dec4 (by rw [gm]; omega)
 have hne : tpc l k ≠ [] := by
  unfold tpc
  split
  ·simp [pad4]
  ·exact dec_ne _
 refine ⟨?_,by simp; omega,fun h => by simp at h; exact absurd h.2 hne⟩
 simp only []
 rw [List.drop_eq_getElem_cons hk,txtG,h1]
 unfold tpc
 rw [gm]
 by_cases c : k + 1 < l.length
 ·rw [if_pos c,if_neg (by intro e; have := congrArg List.length e; simp at this; omega)]
 ·rw [if_neg c,List.drop_of_length_le (by omega),if_pos rfl]; rfl
def outT (z : Int) : AV := if z.natAbs < 10 ^ 200 then .tuple [.str (itxt z),.int .i64 0] else .tuple [.str [],.int .i64 30]
def sgn (neg : Bool) (n : Nat) : Int := if neg then -(n : Int) else n
theorem sgn_abs (neg : Bool) (n : Nat) : (sgn neg n).natAbs = n := by unfold sgn; split <;> omega
theorem text_run {v : AV} {n : Nat} (neg : Bool) (hv : PureSl 1 v (ints (grp n))) (hn : (grp n).length ≤ 10000) (h : Heap) (lo : Nat) :
  (run lib).fn 114 [.agg [.bool neg,v]] h lo = some (outT (sgn neg n),h) := by
 obtain ⟨v',f1,f1',f2,f3,f4,f5⟩ := PureSl_frz2 hv
 have s1 := lenv_sl (f4.sl []).len
 rw [ints_len] at s1
 by_cases h0 : n = 0
 ·subst h0
  have e : outT (sgn neg 0) = .tuple [.str [48],.int .i64 0] := by cases neg <;> rfl
  rw [grp_zero] at s1
  simp only [List.length_nil,Int.natCast_zero] at s1
  rw [e,run_closed (x := x114) rfl rfl rfl rfl]
  simp (maxSteps := 1000000) (disch := omega) only [go_sem,x114,f1,f2,f5,s1,Int.natCast_zero]
 ·have hne : grp n ≠ [] := fun e => h0 (grp_nil.mp e)
  have hpos := List.length_pos_iff.mpr hne
  have c0 : ¬ ((grp n).length : Int) = 0 := by omega
  have i0 : txI (grp n) (grp n).length ([],0) := ⟨by rw [List.drop_of_length_le (Nat.le_refl _)]; rfl,by simp,fun _ => rfl⟩
  have dg := dig_grp n
  have hbk := back_run (H := txH h v' neg) (nb := h.length + 3) (lo := h.length) (id := h.length + 0) (Y := fun s k => (true,(s.1 ++ tpc (grp n) k,s.2 + 1))) (Iv := txI (grp n)) f4 (by omega) (fun s => by simp [txH]) (by omega)
   (fun k s hk hi _ => txI_step dg k s hk hi)
   (fun k s hk hi => by
    have gm : (grp n).getD k 0 = (grp n)[k] := by rw [List.getD_eq_getElem?_getD,List.getElem?_eq_getElem hk]; rfl
    have hx := dg (grp n)[k] (List.getElem_mem hk)
    have y := tx_yield (v := v') (l := grp n) (neg := neg) f4 hn h k hk ((grp n).getD k 0).toNat (by rw [gm]; omega) rfl s (by have := hi.2.1; omega) hi.2.2 h.length (Nat.le_refl _)
    have e : (((grp n).getD k 0).toNat : Int) = (grp n)[k] := by rw [gm]; omega
    rw [e] at y
    exact y) ([],0) i0
  have hfin := back_inv (Y := fun s k => (true,(s.1 ++ tpc (grp n) k,s.2 + 1))) (Iv := txI (grp n)) (fun s k => rfl) (fun k s hk hi => txI_step dg k s hk hi) (grp n).length ([],0) (Nat.le_refl _) i0
  obtain ⟨s',hs'⟩ : ∃ s',s' = backF (fun (s : List UInt8 × Nat) k => (true,(s.1 ++ tpc (grp n) k,s.2 + 1))) (grp n).length ([],0) := ⟨_,rfl⟩
  rw [← hs'] at hbk hfin
  clear hs'
  obtain ⟨W,w⟩ := s'
  have hW : W = dec n := by have := hfin.1; rw [List.drop_zero,txt_grp h0] at this; exact this
  subst hW
  have bw := backward_run v' v' f1' f1' f3 f5
  have b0 : bldBuf h [] 0 = (0,.dead) := rfl
  have b1 : bldBld h [] 0 = (1,.rcd (Rcd.at (h.length + 2) (.bld (h.length + 2) 1 none)) (.spc (.bld (h.length + 2) 1 none))) := rfl
  simp only [txH,b0,b1] at hbk
  have g3' := w_rfn (L := lib) (lo := h.length) (ns := 3) (s := 0) (g := 8) (it := 175) (v := 0) (caps := [.cptr [v']]) (env := txE h v' neg) (h := h) (b := .dead) (fr := [(0,.dead),(0,.dead),(1,.rcd (Rcd.at (h.length + 2) (.bld (h.length + 2) 1 none)) (.spc (.bld (h.length + 2) 1 none)))])
   (fr' := [(1,.rcd ⟨8,h.length,h.length,3,txE h v' neg⟩ .ready),bldBuf h (dec n) w,bldBld h (dec n) w]) (f := .t 15) rfl (by omega) rfl hbk rfl
  simp only [txE,List.set_cons_zero] at g3'
  have be := bstr_end (h := h) (R := (1,.dead)) (W := dec n) (w := w) (dec_ne n)
  have hlen := dec_len (n := n) (k := 200) (by omega)
  have hbig : (dec n).length ≤ 100000 := by
   have := hfin.2.1
   simp only [] at this
   omega
  have ad : binv .add (.str [45]) (.str (dec n)) = some (.str (45 :: dec n)) := by rw [bin_sadd (by simp; omega)]; rfl
  rw [run_closed (x := x114) rfl rfl rfl rfl]
  unfold outT
  rw [sgn_abs]
  by_cases c : n < 10 ^ 200
  ·have c1 : ¬ (200 : Int) < (dec n).length := by have := hlen.mpr c; omega
   rw [if_pos c]
   cases neg with
   | true =>
    have e : itxt (sgn true n) = 45 :: dec n := by
     unfold itxt sgn
     rw [if_pos rfl,if_pos (by omega)]
     have : (-(n : Int)).natAbs = n := by omega
     rw [this]
    rw [e]
    simp (maxSteps := 1000000) (disch := omega) only [go_sem,x114,f1,f2,f5,s1,c0,set_fr,bw,g3',be,c1,ad]
   | false =>
    have e : itxt (sgn false n) = dec n := by
     unfold sgn
     rw [if_neg (by simp),itxt_nat]
    rw [e]
    simp (maxSteps := 1000000) (disch := omega) only [go_sem,x114,f1,f2,f5,s1,c0,set_fr,bw,g3',be,c1,ad]
  ·have c1 : (200 : Int) < (dec n).length := by
    rcases Int.lt_or_le (200 : Int) (dec n).length with h | h
    ·exact h
    ·exact absurd (hlen.mp (by omega)) c
   rw [if_neg c]
   simp (maxSteps := 1000000) (disch := omega) only [go_sem,x114,f1,f2,f5,s1,c0,set_fr,bw,g3',be,c1,ad]
end Go.VI.Dump
namespace Go.VI.Dump
open Go.VI.Num
theorem sgn_self (x : Int) : sgn (decide (x < 0)) x.natAbs = x := by
 unfold sgn
 by_cases c : x < 0
 ·rw [decide_eq_true c,if_pos rfl]; omega
 ·rw [decide_eq_false c,if_neg (by simp)]; omega
def plS (a : Bool) (n : Nat) (b : Bool) (m : Nat) : Bool × Nat := if a = b then (a,n + m) else if m ≤ n then (a,n - m) else (b,m - n)
theorem plS_val (a : Bool) (n : Nat) (b : Bool) (m : Nat) : sgn (plS a n b m).1 (plS a n b m).2 = sgn a n + sgn b m := by
 unfold plS
 by_cases c : a = b
 ·subst c
  rw [if_pos rfl]
  cases a <;> simp [sgn] <;> omega
 ·rw [if_neg c]
  by_cases c2 : m ≤ n
  ·rw [if_pos c2]
   cases a <;> cases b <;> simp [sgn] at c ⊢ <;> omega
  ·rw [if_neg c2]
   cases a <;> cases b <;> simp [sgn] at c ⊢ <;> omega
theorem cmpN_ge (a b : Int) : (0 ≤ cmpN a b) ↔ b ≤ a := by
 unfold cmpN
 by_cases h1 : a < b
 ·rw [if_pos h1]; omega
 ·rw [if_neg h1]
  by_cases h2 : a = b
  ·rw [if_pos h2]; omega
  ·rw [if_neg h2]; omega
theorem splus_run {v u : AV} {n m : Nat} (a b : Bool) (hv : PureSl 1 v (ints (grp n))) (hu : PureSl 1 u (ints (grp m))) (hn : (grp n).length ≤ 50000) (hm : (grp m).length ≤ 50000) (h : Heap) (lo : Nat) :
  (run lib).fn 162 [.agg [.bool a,v],.agg [.bool b,u]] h lo = some (.agg [.bool (plS a n b m).1,.lst 1 (ints (grp (plS a n b m).2))],h) := by
 obtain ⟨v',f1,f1',f2,f3,f4,f5⟩ := PureSl_frz2 hv
 obtain ⟨u',g1,g1',g2,g3,g4,g5⟩ := PureSl_frz2 hu
 have pl := fun H lo => plus_run f4 g4 hn hm H lo
 have cm := fun H lo => cmp_run f4 g4 (by omega) (by omega) H lo
 rw [cmpL_grp] at cm
 have ge := cmpN_ge (n : Int) (m : Int)
 generalize cmpN (n : Int) (m : Int) = q at *
 have eb : (a == b) = decide (a = b) := beq_dec a b
 rw [run_closed (x := x162) rfl rfl rfl rfl]
 unfold plS
 by_cases c : a = b
 ·rw [decide_eq_true c] at eb
  rw [if_pos c]
  simp (maxSteps := 1000000) (disch := omega) only [go_sem,x162,f1,g1,eb,pl,splice_ok]
 ·rw [decide_eq_false c] at eb
  rw [if_neg c]
  by_cases c2 : m ≤ n
  ·have mi := fun H lo => minus_run f4 g4 c2 hn H lo
   have c3 : (0 : Int) ≤ q := by omega
   rw [if_pos c2]
   simp (maxSteps := 1000000) (disch := omega) only [go_sem,x162,f1,g1,eb,cm,c3,mi,splice_ok]
  ·have mi := fun H lo => minus_run g4 f4 (by omega) hm H lo
   have c3 : ¬ (0 : Int) ≤ q := by omega
   rw [if_neg c2]
   simp (maxSteps := 1000000) (disch := omega) only [go_sem,x162,f1,g1,eb,cm,c3,mi,splice_ok]
theorem one_run (h : Heap) (lo : Nat) : (run lib).fn 112 [] h lo = some (.lsf 1 [.int .i64 1],h) := by
 have hg2 : giveRes h.length (.lsf 1 [.int .i64 1]) h = some (.lsf 1 [.int .i64 1]) := rfl
 rw [run_closed (x := x112) rfl rfl rfl rfl]
 simp (maxSteps := 1000000) (disch := omega) only [go_sem,x112,hg2,Option.map_some]
def Fit (z : Int) : Prop := z.natAbs < 10 ^ 200
def outS (z : Int) : List UInt8 := if z.natAbs < 10 ^ 200 then itxt z else []
def outE (z : Int) : Int := if z.natAbs < 10 ^ 200 then 0 else 30
theorem outT_eq (z : Int) : outT z = .tuple [.str (outS z),.int .i64 (outE z)] := by
 unfold outT outS outE
 split <;> rfl
theorem outT_fit {z : Int} (h : Fit z) : outT z = .tuple [.str (itxt z),.int .i64 0] := if_pos h
theorem fit_len {z : Int} (h : Fit z) : (grp z.natAbs).length ≤ 50 := by
 refine grp_len_pow 50 _ ?_
 have e : (10000 : Nat) ^ 50 = 10 ^ 200 := by rw [show (10000 : Nat) = 10 ^ 4 from rfl,← Nat.pow_mul]
 rw [e]; exact h
theorem agg_pure (z : Int) : PureSl 1 (.lst 1 (ints (grp z.natAbs))) (ints (grp z.natAbs)) := lst_pure _
theorem plS_len {a b : Bool} {n m k : Nat} (hn : (grp n).length ≤ k) (hm : (grp m).length ≤ k) : (grp (plS a n b m).2).length ≤ k + 1 := by
 have h1 := grp_lt_pow n
 have h2 := grp_lt_pow m
 have h3 : n < 10000 ^ k := Nat.lt_of_lt_of_le h1 (Nat.pow_le_pow_right (by omega) hn)
 have h4 : m < 10000 ^ k := Nat.lt_of_lt_of_le h2 (Nat.pow_le_pow_right (by omega) hm)
 refine grp_len_pow _ _ ?_
 rw [Nat.pow_succ]
 unfold plS
 generalize 10000 ^ k = X at *
 split
 ·simp only []; omega
 ·split
  ·simp only []; omega
  ·simp only []; omega
theorem sub_run {x y : Int} (hx : Fit x) (hy : Fit y) (h : Heap) (lo : Nat) : (run lib).fn 135 [.str (itxt x),.str (itxt y)] h lo = some (outT (x - y),h) := by
 have bo := fun H lo => both_run hx hy H lo
 have lx := fit_len hx
 have ly := fit_len hy
 have sp := fun H lo => splus_run (decide (x < 0)) (!decide (y < 0)) (agg_pure x) (agg_pure y) (by omega) (by omega) H lo
 have pv := plS_val (decide (x < 0)) x.natAbs (!decide (y < 0)) y.natAbs
 have pn := plS_len (a := decide (x < 0)) (b := !decide (y < 0)) lx ly
 have hneg : sgn (!decide (y < 0)) y.natAbs = -y := by
  unfold sgn
  by_cases c : y < 0
  ·rw [decide_eq_true c,Bool.not_true,if_neg (by simp)]; omega
  ·rw [decide_eq_false c,Bool.not_false,if_pos rfl]; omega
 rw [sgn_self,hneg,← Int.sub_eq_add_neg] at pv
 generalize plS (decide (x < 0)) x.natAbs (!decide (y < 0)) y.natAbs = p at *
 have tx := fun H lo => text_run (n := p.2) p.1 (lst_pure _) (by omega) H lo
 rw [pv,outT_eq] at tx
 simp only [aggV] at bo
 rw [outT_eq,run_closed (x := x135) rfl rfl rfl rfl]
 simp (maxSteps := 1000000) (disch := omega) only [go_sem,x135,bo,sp,tx,splice_ok]
theorem sgn_mul (x y : Int) : sgn (!(decide (x < 0) == decide (y < 0))) (x.natAbs * y.natAbs) = x * y := by
 have e : ((x.natAbs * y.natAbs : Nat) : Int) = (x * y).natAbs := by rw [Int.natAbs_mul]
 unfold sgn
 rw [e]
 by_cases c1 : x < 0
 ·by_cases c2 : y < 0
  ·rw [decide_eq_true c1,decide_eq_true c2,if_neg (by simp)]
   have := Int.mul_nonneg_of_nonpos_of_nonpos (Int.le_of_lt c1) (Int.le_of_lt c2); omega
  ·rw [decide_eq_true c1,decide_eq_false c2,if_pos (by simp)]
   have := Int.mul_nonpos_of_nonpos_of_nonneg (Int.le_of_lt c1) (by omega : 0 ≤ y); omega
 ·by_cases c2 : y < 0
  ·rw [decide_eq_false c1,decide_eq_true c2,if_pos (by simp)]
   have := Int.mul_nonpos_of_nonneg_of_nonpos (by omega : 0 ≤ x) (Int.le_of_lt c2); omega
  ·rw [decide_eq_false c1,decide_eq_false c2,if_neg (by simp)]
   have := Int.mul_nonneg (by omega : 0 ≤ x) (by omega : 0 ≤ y); omega
theorem mul_run {x y : Int} (hx : Fit x) (hy : Fit y) (h : Heap) (lo : Nat) : (run lib).fn 161 [.str (itxt x),.str (itxt y)] h lo = some (outT (x * y),h) := by
 have bo := fun H lo => both_run hx hy H lo
 have lx := fit_len hx
 have ly := fit_len hy
 have ti := fun H lo => times_run (agg_pure x) (agg_pure y) (by omega) (by omega) H lo
 have hl := grp_len_mul x.natAbs y.natAbs
 obtain ⟨P,hP,hw⟩ : ∃ P,PureSl 1 P (ints (grp (x.natAbs * y.natAbs))) ∧ weak (if y.natAbs = 0 then AV.own 0 [] else .lst 1 (ints (grp (x.natAbs * y.natAbs)))) = P ∧ P.val = true ∧ P.cells = [P] := by
  by_cases c : y.natAbs = 0
  ·refine ⟨.lst 0 [], ?_,by rw [if_pos c]; rfl,rfl,rfl⟩
   rw [c,Nat.mul_zero,grp_zero]
   exact .inr ⟨0,.inl rfl,.inr rfl⟩
  ·exact ⟨.lst 1 (ints (grp (x.natAbs * y.natAbs))),lst_pure _,by rw [if_neg c]; rfl,rfl,rfl⟩
 have tx := fun H lo => text_run (n := x.natAbs * y.natAbs) (!(decide (x < 0) == decide (y < 0))) hP (by omega) H lo
 rw [sgn_mul,outT_eq] at tx
 simp only [aggV] at bo
 obtain ⟨hw1,hw2,hw3⟩ := hw
 generalize (if y.natAbs = 0 then AV.own 0 [] else .lst 1 (ints (grp (x.natAbs * y.natAbs)))) = Q at *
 rw [outT_eq,run_closed (x := x161) rfl rfl rfl rfl]
 simp (maxSteps := 1000000) (disch := omega) only [go_sem,x161,bo,ti,hw1,hw2,hw3,tx,splice_ok]
theorem valid_run (s : List UInt8) (h : Heap) (lo : Nat) : (run lib).fn 102 [.str s] h lo = some (.bool (validS s),h) := by
 have bo := fun H lo => isvalid_run s H lo
 rw [run_closed (x := x102) rfl rfl rfl rfl]
 simp (maxSteps := 1000000) (disch := omega) only [go_sem,x102,bo]
theorem compare_run {x y : Int} (hx : Fit x) (hy : Fit y) (h : Heap) (lo : Nat) : (run lib).fn 82 [.str (itxt x),.str (itxt y)] h lo = some (.int .i64 (cmpN x y),h) := by
 have bo := fun H lo => both_run hx hy H lo
 have lx := fit_len hx
 have ly := fit_len hy
 have cm := fun H lo => cmp_run (agg_pure x) (agg_pure y) (by omega) (by omega) H lo
 have cn := fun H lo => cmp_run (agg_pure y) (agg_pure x) (by omega) (by omega) H lo
 rw [cmpL_grp] at cm cn
 simp only [aggV] at bo
 rw [run_closed (x := x82) rfl rfl rfl rfl]
 by_cases c1 : x < 0
 ·rw [decide_eq_true c1] at bo
  by_cases c2 : y < 0
  ·rw [decide_eq_true c2] at bo
   have e : cmpN (y.natAbs : Int) (x.natAbs : Int) = cmpN x y := by
    unfold cmpN
    have e1 : (y.natAbs : Int) = -y := by omega
    have e2 : (x.natAbs : Int) = -x := by omega
    rw [e1,e2]
    simp only [show (-y < -x) = (x < y) by simp,show (-y = -x) = (x = y) by rw [eq_iff_iff]; omega]
   rw [e] at cn
   simp (maxSteps := 1000000) (disch := omega) only [go_sem,x82,bo,cn,splice_ok]
  ·rw [decide_eq_false c2] at bo
   have e : cmpN x y = -1 := if_pos (by omega)
   rw [e]
   simp (maxSteps := 1000000) (disch := omega) only [go_sem,x82,bo,splice_ok]
 ·rw [decide_eq_false c1] at bo
  by_cases c2 : y < 0
  ·rw [decide_eq_true c2] at bo
   have e : cmpN x y = 1 := by unfold cmpN; rw [if_neg (by omega),if_neg (by omega)]
   rw [e]
   simp (maxSteps := 1000000) (disch := omega) only [go_sem,x82,bo,splice_ok]
  ·rw [decide_eq_false c2] at bo
   have e1 : (y.natAbs : Int) = y := by omega
   have e2 : (x.natAbs : Int) = x := by omega
   rw [e1,e2] at cm
   simp (maxSteps := 1000000) (disch := omega) only [go_sem,x82,bo,cm,splice_ok]
theorem fromint_run {n : Int} (h0 : -9223372036854775808 ≤ n) (h1 : n ≤ 9223372036854775807) (h : Heap) (lo : Nat) : (run lib).fn 74 [.int .i64 n] h lo = some (.str (itxt n),h) := by
 have it := fun H lo => itoa_run h0 h1 H lo
 rw [run_closed (x := x74) rfl rfl rfl rfl]
 simp (maxSteps := 1000000) (disch := omega) only [go_sem,x74,it]
end Go.VI.Dump
namespace Go.VI.Dump
open Go.VI.Num
def dvQ (x y : Int) : Nat := if x < 0 ∧ x.natAbs % y.natAbs ≠ 0 then x.natAbs / y.natAbs + 1 else x.natAbs / y.natAbs
def dvR (x y : Int) : Nat := if x < 0 ∧ x.natAbs % y.natAbs ≠ 0 then y.natAbs - x.natAbs % y.natAbs else x.natAbs % y.natAbs
theorem dv_eq {x y : Int} (hy : y ≠ 0) : sgn (!(decide (x < 0) == decide (y < 0))) (dvQ x y) = x / y ∧ (dvR x y : Int) = x % y := by
 have hpos : 0 < y.natAbs := by omega
 have hlt := Nat.mod_lt x.natAbs hpos
 have hdm := Nat.div_add_mod x.natAbs y.natAbs
 obtain ⟨m,hm⟩ : ∃ m,m = y.natAbs := ⟨_,rfl⟩
 obtain ⟨n,hn⟩ : ∃ n,n = x.natAbs := ⟨_,rfl⟩
 have key : ∀ (Q : Int) (R : Nat),(R : Int) + (m : Int) * Q = x → R < m → x / (m : Int) = Q ∧ x % (m : Int) = R := fun Q R h1 h2 =>
  (Int.ediv_emod_unique (by omega)).mpr ⟨h1,by omega,by omega⟩
 have fin : ∀ (Q : Int) (R : Nat),(R : Int) + (m : Int) * Q = x → R < m → (if y < 0 then -Q else Q) = x / y ∧ (R : Int) = x % y := fun Q R h1 h2 => by
  obtain ⟨k1,k2⟩ := key Q R h1 h2
  by_cases c : y < 0
  ·have ey : y = -(m : Int) := by omega
   rw [if_pos c,ey,Int.ediv_neg,Int.emod_neg,k1,k2]; exact ⟨rfl,rfl⟩
  ·have ey : y = (m : Int) := by omega
   rw [if_neg c,ey,k1,k2]; exact ⟨rfl,rfl⟩
 unfold dvQ dvR sgn
 rw [← hm] at hlt hdm hpos ⊢
 rw [← hn] at hlt hdm ⊢
 have hcast : ((n / m : Nat) : Int) * (m : Int) + ((n % m : Nat) : Int) = n := by
  rw [← Int.natCast_mul,← Int.natCast_add,Nat.mul_comm,hdm]
 generalize n / m = q at *
 generalize n % m = r at *
 by_cases c1 : x < 0
 ·by_cases c3 : r = 0
  ·have := fin (-(q : Int)) 0 (by rw [Int.mul_neg,Int.mul_comm]; generalize (q : Int) * (m : Int) = Z at *; omega) hpos
   have eQ : (if x < 0 ∧ r ≠ 0 then q + 1 else q) = q := if_neg (by omega)
   have eR : (if x < 0 ∧ r ≠ 0 then m - r else r) = 0 := by rw [if_neg (by omega),c3]
   rw [eQ,eR]
   by_cases c2 : y < 0
   ·rw [if_pos c2] at this
    rw [decide_eq_true c1,decide_eq_true c2,if_neg (by simp)]
    rw [Int.neg_neg] at this; exact this
   ·rw [if_neg c2] at this
    rw [decide_eq_true c1,decide_eq_false c2,if_pos (by simp)]; exact this
  ·have := fin (-((q : Int) + 1)) (m - r) (by rw [Int.mul_neg,Int.mul_add,Int.mul_comm (m : Int) q]; generalize (q : Int) * (m : Int) = Z at *; omega) (by omega)
   have eQ : (if x < 0 ∧ r ≠ 0 then q + 1 else q) = q + 1 := if_pos ⟨c1,c3⟩
   have eR : (if x < 0 ∧ r ≠ 0 then m - r else r) = m - r := if_pos ⟨c1,c3⟩
   rw [eQ,eR]
   have e : ((q + 1 : Nat) : Int) = (q : Int) + 1 := by omega
   rw [e]
   by_cases c2 : y < 0
   ·rw [if_pos c2] at this
    rw [decide_eq_true c1,decide_eq_true c2,if_neg (by simp)]
    rw [Int.neg_neg] at this; exact this
   ·rw [if_neg c2] at this
    rw [decide_eq_true c1,decide_eq_false c2,if_pos (by simp)]; exact this
 ·have := fin (q : Int) r (by rw [Int.mul_comm]; generalize (q : Int) * (m : Int) = Z at *; omega) hlt
  have eQ : (if x < 0 ∧ r ≠ 0 then q + 1 else q) = q := if_neg (by omega)
  have eR : (if x < 0 ∧ r ≠ 0 then m - r else r) = r := if_neg (by omega)
  rw [eQ,eR]
  by_cases c2 : y < 0
  ·rw [if_pos c2] at this
   rw [decide_eq_false c1,decide_eq_true c2,if_pos (by simp)]; exact this
  ·rw [if_neg c2] at this
   rw [decide_eq_false c1,decide_eq_false c2,if_neg (by simp)]; exact this
theorem dvQ_le {x y : Int} (hy : y ≠ 0) : dvQ x y ≤ x.natAbs := by
 have hpos : 0 < y.natAbs := by omega
 have hdm := Nat.div_add_mod x.natAbs y.natAbs
 unfold dvQ
 have h1 := Nat.div_le_self x.natAbs y.natAbs
 have h2 : x.natAbs / y.natAbs ≤ y.natAbs * (x.natAbs / y.natAbs) := Nat.le_mul_of_pos_left _ hpos
 generalize x.natAbs / y.natAbs = q at *
 generalize x.natAbs % y.natAbs = r at *
 generalize y.natAbs * q = Z at *
 split <;> omega
theorem ediv_fit {x y : Int} (hx : Fit x) (hy : y ≠ 0) : Fit (x / y) := by
 have h1 := (dv_eq (x := x) hy).1
 have h2 := dvQ_le (x := x) hy
 unfold Fit at *
 rw [← h1,sgn_abs]
 exact Nat.lt_of_le_of_lt h2 hx
theorem emod_fit {x y : Int} (hy : Fit y) (hy0 : y ≠ 0) : Fit (x % y) := by
 have h1 := (dv_eq (x := x) hy0).2
 have h2 := Nat.mod_lt x.natAbs (show 0 < y.natAbs by omega)
 have h3 : dvR x y ≤ y.natAbs := by unfold dvR; split <;> omega
 have h4 : (x % y).natAbs ≤ y.natAbs := by omega
 exact Nat.lt_of_le_of_lt h4 hy
def divT (x y : Int) : AV := .tuple [.str (itxt (x / y)),.str (itxt (x % y)),.int .i64 0]
theorem div_run {x y : Int} (hx : Fit x) (hy : Fit y) (hy0 : y ≠ 0) (h : Heap) (lo : Nat) : (run lib).fn 81 [.str (itxt x),.str (itxt y)] h lo = some (divT x y,h) := by
 have bo := fun H lo => both_run hx hy H lo
 have lx := fit_len hx
 have ly := fit_len hy
 have hm0 : y.natAbs ≠ 0 := by omega
 have ov := fun H lo => over_run hm0 (agg_pure x) (agg_pure y) (by omega) (by omega) H lo
 obtain ⟨d1,d2⟩ := dv_eq (x := x) hy0
 have hql := dvQ_le (x := x) hy0
 have fq := ediv_fit (y := y) hx hy0
 have fr := emod_fit (x := x) hy hy0
 simp only [aggV] at bo
 have hyl : ¬ ((grp y.natAbs).length : Int) = 0 := by
  have : grp y.natAbs ≠ [] := fun e => hm0 (grp_nil.mp e)
  have := List.length_pos_iff.mpr this
  omega
 have s2 := lenv_sl ((agg_pure y).sl []).len
 rw [ints_len] at s2
 have rp := remV_pure x.natAbs y.natAbs
 have s1 := lenv_sl (rp.sl []).len
 rw [ints_len] at s1
 have hrl : (grp (x.natAbs % y.natAbs)).length ≤ 50 := Nat.le_trans (grp_len_le (Nat.le_of_lt (Nat.mod_lt _ (by omega)))) ly
 have tq := fun H lo => text_run (v := .lst 1 (ints (grp (dvQ x y)))) (n := dvQ x y) (!(decide (x < 0) == decide (y < 0))) (lst_pure _) (by have := grp_len_le hql; omega) H lo
 rw [d1,outT_fit fq] at tq
 have tr := fun v hv H lo => text_run (v := v) (n := dvR x y) false hv (by
  have h2 := fr
  have e : (x % y).natAbs = dvR x y := by omega
  have := fit_len h2
  rw [e] at this; omega) H lo
 have es : sgn false (dvR x y) = x % y := by rw [← d2]; rfl
 rw [es,outT_fit fr] at tr
 unfold divT
 rw [run_closed (x := x81) rfl rfl rfl rfl]
 by_cases c : x < 0 ∧ x.natAbs % y.natAbs ≠ 0
 ·obtain ⟨c1,c2⟩ := c
  have c3 : (0 : Int) < (grp (x.natAbs % y.natAbs)).length := by
   have : grp (x.natAbs % y.natAbs) ≠ [] := fun e => c2 (grp_nil.mp e)
   have := List.length_pos_iff.mpr this
   omega
  have pl := fun H lo => plus_run (v := .lst 1 (ints (grp (x.natAbs / y.natAbs)))) (u := .lsf 1 [.int .i64 1]) (a := x.natAbs / y.natAbs) (b := 1) (lst_pure _) (.inr ⟨1,.inr rfl,.inl rfl⟩) (by have := grp_len_le (Nat.div_le_self x.natAbs y.natAbs); omega) (by decide) H lo
  have mi := fun H lo => minus_run (agg_pure y) rp (Nat.le_of_lt (Nat.mod_lt _ (by omega))) (by omega) H lo
  have eq : dvQ x y = x.natAbs / y.natAbs + 1 := if_pos ⟨c1,c2⟩
  have er : dvR x y = y.natAbs - x.natAbs % y.natAbs := if_pos ⟨c1,c2⟩
  rw [eq] at tq
  have tr1 := tr (.lst 1 (ints (grp (y.natAbs - x.natAbs % y.natAbs)))) (by rw [er]; exact lst_pure _)
  rw [decide_eq_true c1] at bo tq
  have hwk : weak (.lsf 1 [.int .i64 1]) = .lsf 1 [.int .i64 1] := rfl
  simp (maxSteps := 1000000) (disch := omega) only [go_sem,x81,bo,splice_ok,s2,hyl,ov,s1,c3,one_run,hwk,pl,mi,tq,tr1]
 ·have eq : dvQ x y = x.natAbs / y.natAbs := if_neg c
  have er : dvR x y = x.natAbs % y.natAbs := if_neg c
  rw [eq] at tq
  have tr1 := tr (remV x.natAbs y.natAbs) (by rw [er]; exact rp)
  by_cases c1 : x < 0
  ·have c2 : x.natAbs % y.natAbs = 0 := by omega
   have c3 : ¬ (0 : Int) < (grp (x.natAbs % y.natAbs)).length := by rw [c2,grp_zero]; simp
   rw [decide_eq_true c1] at bo tq
   simp (maxSteps := 1000000) (disch := omega) only [go_sem,x81,bo,splice_ok,s2,hyl,ov,s1,c3,tq,tr1]
  ·rw [decide_eq_false c1] at bo tq
   simp (maxSteps := 1000000) (disch := omega) only [go_sem,x81,bo,splice_ok,s2,hyl,ov,s1,tq,tr1]
end Go.VI.Dump
namespace Go.VI.Num
end Go.VI.Num
namespace Go.VI.Dump
open Go.VI.Num
theorem PureSl_cells {z : Nat} {v : AV} {es : List AV} (p : PureSl z v es) : v.cells = [v] := by
 rcases p with ⟨rfl,rfl⟩ | ⟨z',rfl | rfl,hz⟩ <;> rfl
theorem PureSl_val {z : Nat} {v : AV} {es : List AV} (p : PureSl z v es) : v.val = true := by
 rcases p with ⟨rfl,rfl⟩ | ⟨z',rfl | rfl,hz⟩ <;> rfl
theorem gcd_loop (cx : Cx) (H : Heap) : ∀ (b a : Nat) (v u : AV),PureSl 1 v (ints (grp a)) → PureSl 1 u (ints (grp b)) → (grp a).length ≤ 1000 → (grp b).length ≤ 1000 →
  ∃ w,PureSl 1 w (ints (grp (Nat.gcd a b))) ∧ runC lib cx (.loop b105_0) ([(9,v),(10,u)],H) = some (.exit 0,([(9,w)],H)) := by
 intro b
 induction b using Nat.strongRecOn with
 | _ b ih =>
  intro a v u hv hu ha hb
  have s1 := lenv_sl (hu.sl []).len
  rw [ints_len] at s1
  by_cases h0 : b = 0
  ·subst h0
   refine ⟨v,by rw [Nat.gcd_zero_right]; exact hv, ?_⟩
   have c1 : ¬ (0 : Int) < (grp 0).length := by simp [grp_zero]
   rw [w_loop]
   simp (maxSteps := 1000000) (disch := omega) only [go_sem,s1,c1]
  ·have hpos : 0 < b := by omega
   have hlt := Nat.mod_lt a hpos
   have hl2 : (grp (a % b)).length ≤ 1000 := Nat.le_trans (grp_len_le (Nat.le_of_lt hlt)) hb
   obtain ⟨w,w1,w2⟩ := ih (a % b) hlt b u (remV a b) hu (remV_pure a b) hb hl2
   refine ⟨w, ?_, ?_⟩
   ·have e : Nat.gcd a b = Nat.gcd b (a % b) := by rw [Nat.gcd_comm a b,Nat.gcd_rec,Nat.gcd_comm]
    rw [e]; exact w1
   ·have c1 : (0 : Int) < (grp b).length := by
     have : grp b ≠ [] := fun e => h0 (grp_nil.mp e)
     have := List.length_pos_iff.mpr this
     omega
    have ov := fun H lo => over_run h0 hv hu (by omega) (by omega) H lo
    rw [w_loop]
    simp (maxSteps := 1000000) (disch := omega) only [go_sem,s1,c1,ov,w2]
theorem gcd_fit {x y : Int} (hx : Fit x) (hy : Fit y) : Fit ((Int.gcd x y : Nat) : Int) := by
 unfold Fit at *
 rw [Int.natAbs_natCast]
 unfold Int.gcd
 rcases Nat.eq_zero_or_pos x.natAbs with h | h
 ·rw [h,Nat.gcd_zero_left]; exact hy
 ·exact Nat.lt_of_le_of_lt (Nat.gcd_le_left _ h) hx
theorem gcd_run {x y : Int} (hx : Fit x) (hy : Fit y) (h : Heap) (lo : Nat) : (run lib).fn 105 [.str (itxt x),.str (itxt y)] h lo = some (.tuple [.str (itxt (Int.gcd x y : Nat)),.int .i64 0],h) := by
 have bo := fun H lo => both_run hx hy H lo
 have lx := fit_len hx
 have ly := fit_len hy
 have fg := gcd_fit hx hy
 obtain ⟨w,w1,w2⟩ := gcd_loop ⟨h.length,h.length,2,none⟩ (h ++ [(1,.box [.bool (decide (x < 0)),.lst 1 (ints (grp x.natAbs))]),(1,.box [.bool (decide (y < 0)),.lst 1 (ints (grp y.natAbs))])]) y.natAbs x.natAbs _ _ (agg_pure x) (agg_pure y) (by omega) (by omega)
 have hw1 := PureSl_cells w1
 have hw2 := PureSl_val w1
 have tx := fun H lo => text_run (n := Nat.gcd x.natAbs y.natAbs) false w1 (by have := fit_len fg; rw [Int.natAbs_natCast] at this; unfold Int.gcd at this; omega) H lo
 have es : sgn false (Nat.gcd x.natAbs y.natAbs) = ((Int.gcd x y : Nat) : Int) := rfl
 rw [es,outT_fit fg] at tx
 simp only [aggV] at bo
 rw [run_closed (x := x105) rfl rfl rfl rfl]
 simp (maxSteps := 1000000) (disch := omega) only [go_sem,x105,bo,splice_ok,w2,hw1,hw2,tx]
end Go.VI.Dump
namespace Go.VI.Dump
open Go.VI.Num
def frV (s t : List UInt8) : AV := .agg [.str s,.str t]
def rt (q : Rat) : AV := frV (itxt q.num) (itxt (q.den : Int))
def resO (o : Option Rat) : AV := match o with | some q => .tuple [rt q,.int .i64 0] | none => .tuple [frV [] [],.int .i64 40]
theorem zero_txt : itxt 0 = [48] := rfl
theorem fit_zero : Fit 0 := by unfold Fit; decide
theorem den_fit {q : Rat} (h : FitQ q) : Fit (q.den : Int) := by unfold Fit; rw [Int.natAbs_natCast]; exact h.2
theorem cmpN_le (x : Int) : decide (cmpN x 0 ≤ 0) = !decide (0 < x) := by
 unfold cmpN
 by_cases h1 : x < 0
 ·rw [if_pos h1,decide_eq_false (show ¬ 0 < x by omega)]; rfl
 ·rw [if_neg h1]
  by_cases h2 : x = 0
  ·rw [if_pos h2,decide_eq_false (show ¬ 0 < x by omega)]; rfl
  ·rw [if_neg h2,decide_eq_true (show 0 < x by omega)]; rfl
theorem txt_one (z : Int) : decide (itxt z = [49]) = decide (z = 1) := by
 rw [decide_eq_decide,← itxt_one]
 exact ⟨itxt_inj,fun h => by rw [h]⟩
theorem qvalid_run (s t : List UInt8) (h : Heap) (lo : Nat) : (run lib).fn 78 [frV s t] h lo = some (.bool (rvalid s t),h) := by
 have v1 := fun H lo => valid_run s H lo
 have v2 := fun H lo => valid_run t H lo
 unfold frV rvalid
 rw [run_closed (x := x78) rfl rfl rfl rfl]
 cases c1 : validS s with
 | false =>
  rw [c1] at v1
  simp (maxSteps := 1000000) (disch := omega) only [go_sem,x78,v1]
 | true =>
  rw [c1] at v1
  cases c2 : validS t with
  | false =>
   rw [c2] at v2
   simp (maxSteps := 1000000) (disch := omega) only [go_sem,x78,v1,v2]
  | true =>
   rw [c2] at v2
   obtain ⟨e1,f1⟩ := valid_txt c1
   obtain ⟨e2,f2⟩ := valid_txt c2
   have cm := fun H lo => compare_run (x := zv t) (y := 0) f2 fit_zero H lo
   rw [zero_txt,← e2] at cm
   have gc := fun H lo => gcd_run f1 f2 H lo
   rw [← e1,← e2] at gc
   have cl := cmpN_le (zv t)
   have g1 := txt_one ((Int.gcd (zv s) (zv t) : Nat) : Int)
   generalize itxt ((Int.gcd (zv s) (zv t) : Nat) : Int) = G at *
   generalize cmpN (zv t) 0 = q at *
   by_cases c3 : 0 < zv t
   ·rw [decide_eq_true c3] at cl ⊢
    have cl' : ¬ q ≤ 0 := by simpa using cl
    by_cases c4 : G = [49]
    ·have c5 : (Int.gcd (zv s) (zv t) == 1) = true := by
      rw [decide_eq_true c4] at g1
      have := of_decide_eq_true g1.symm
      simp only [beq_iff_eq]; omega
     rw [c5]
     simp (maxSteps := 1000000) (disch := omega) only [go_sem,x78,v1,v2,cm,cl',gc,c4]
    ·have c5 : (Int.gcd (zv s) (zv t) == 1) = false := by
      rw [decide_eq_false c4] at g1
      have := of_decide_eq_false g1.symm
      simp only [beq_eq_false_iff_ne,ne_eq]; omega
     rw [c5]
     simp (maxSteps := 1000000) (disch := omega) only [go_sem,x78,v1,v2,cm,cl',gc,c4]
   ·rw [decide_eq_false c3] at cl ⊢
    have cl' : q ≤ 0 := by simpa using cl
    simp (maxSteps := 1000000) (disch := omega) only [go_sem,x78,v1,v2,cm,cl']
end Go.VI.Dump
namespace Go.VI.Dump
open Go.VI.Num
@[reducible] def okB : Nat × Blk := (1,.box [.bool false])
@[reducible] def badB : Nat × Blk := (1,.box [.bool true])
theorem tk_set (h : Heap) (id : Nat) (b : Nat × Blk) : (h.set id b).take h.length = h.set id b := List.take_of_length_le (by simp)
theorem pc_at {H : Heap} {id : Nat} {cs : List AV} (hid : H[id]? = some (1,.box cs)) : pcells H (.bptr id 1 0) = some cs := by simp [pcells,hid]
theorem hset_same {H : Heap} {id : Nat} {b : Nat × Blk} (hid : H[id]? = some b) : H.set id b = H := by
 obtain ⟨h1,h2⟩ := List.getElem?_eq_some_iff.mp hid
 rw [← h2]; exact List.set_getElem_self h1
theorem ps_at {H : Heap} {id base lo ns : Nat} {a b : Bool} (hid : H[id]? = some (1,.box [.bool a])) (hlo : lo ≤ id) (rnd : Option (Nat × Nat)) : pstore ⟨lo,base,ns,rnd⟩ H 1 (.bptr id 1 0) (.bool b) = some (H.set id (1,.box [.bool b])) := by
 cases rnd <;> simp [pstore,AV.cells,AV.val,hid,hlo,splice,AV.closed]
theorem do_bad {h : Heap} {id : Nat} (hid : h[id]? = some badB) (f : AV) (a b : List UInt8) {lo : Nat} (hlo : lo ≤ id) : (run lib).fn 125 [.bptr id 1 0,f,.str a,.str b] h lo = some (.str [],h) := by
 have hlt : id < h.length := (List.getElem?_eq_some_iff.mp hid).1
 have p := pc_at hid
 rw [run_open (x := x125) rfl rfl rfl rfl (by omega)]
 simp (maxSteps := 1000000) (disch := omega) only [go_sem,x125,p,List.take_length]
theorem do_ok {h : Heap} {id : Nat} (hid : h[id]? = some okB) {g : Nat} (hg0 : g < 1000) {a b s : List UInt8} (hg : ∀ lo,(run lib).fn g [.str a,.str b] h lo = some (.tuple [.str s,.int .i64 0],h)) {lo : Nat} (hlo : lo ≤ id) :
  (run lib).fn 125 [.bptr id 1 0,.fn g [],.str a,.str b] h lo = some (.str s,h) := by
 have hlt : id < h.length := (List.getElem?_eq_some_iff.mp hid).1
 have p := pc_at hid
 have st := ps_at (base := h.length) (ns := 0) (b := false) hid hlo none
 rw [hset_same hid] at st
 rw [run_open (x := x125) rfl rfl rfl rfl (by omega)]
 simp (maxSteps := 1000000) (disch := omega) only [go_sem,x125,p,hg,hg0,st,List.take_length]
theorem do_err {h : Heap} {id : Nat} (hid : h[id]? = some okB) {g : Nat} (hg0 : g < 1000) {a b s : List UInt8} {e : Int} (he : e ≠ 0) (hg : ∀ lo,(run lib).fn g [.str a,.str b] h lo = some (.tuple [.str s,.int .i64 e],h)) {lo : Nat} (hlo : lo ≤ id) :
  (run lib).fn 125 [.bptr id 1 0,.fn g [],.str a,.str b] h lo = some (.str s,h.set id badB) := by
 have hlt : id < h.length := (List.getElem?_eq_some_iff.mp hid).1
 have p := pc_at hid
 have st := ps_at (base := h.length) (ns := 0) (b := true) hid hlo none
 rw [run_open (x := x125) rfl rfl rfl rfl (by omega)]
 simp (maxSteps := 1000000) (disch := omega) only [go_sem,x125,p,hg,hg0,he,st,tk_set]
theorem mul_bad' {h : Heap} {id : Nat} (hid : h[id]? = some badB) (a b : List UInt8) {lo : Nat} (hlo : lo ≤ id) : (run lib).fn 124 [.bptr id 1 0,.str a,.str b] h lo = some (.str [],h) := by
 have hlt : id < h.length := (List.getElem?_eq_some_iff.mp hid).1
 have d := fun f {lo} (hlo : lo ≤ id) => do_bad hid f a b (lo := lo) hlo
 rw [run_open (x := x124) rfl rfl rfl rfl (by omega)]
 simp (maxSteps := 1000000) (disch := omega) only [go_sem,x124,d,hlo,List.take_length,tk_set]
theorem wmul_ok {h : Heap} {id : Nat} (hid : h[id]? = some okB) {x y : Int} (hx : Fit x) (hy : Fit y) (hf : Fit (x * y)) {lo : Nat} (hlo : lo ≤ id) :
  (run lib).fn 124 [.bptr id 1 0,.str (itxt x),.str (itxt y)] h lo = some (.str (itxt (x * y)),h) := by
 have hlt : id < h.length := (List.getElem?_eq_some_iff.mp hid).1
 have d := fun {lo} (hlo : lo ≤ id) => do_ok hid (g := 161) (by decide) (a := itxt x) (b := itxt y) (s := itxt (x * y)) (fun lo => by rw [mul_run hx hy,outT_fit hf]) (lo := lo) hlo
 rw [run_open (x := x124) rfl rfl rfl rfl (by omega)]
 simp (maxSteps := 1000000) (disch := omega) only [go_sem,x124,d,hlo,List.take_length,tk_set]
theorem wmul_err {h : Heap} {id : Nat} (hid : h[id]? = some okB) {x y : Int} (hx : Fit x) (hy : Fit y) (hf : ¬ Fit (x * y)) {lo : Nat} (hlo : lo ≤ id) :
  (run lib).fn 124 [.bptr id 1 0,.str (itxt x),.str (itxt y)] h lo = some (.str [],h.set id badB) := by
 have hlt : id < h.length := (List.getElem?_eq_some_iff.mp hid).1
 have d := fun {lo} (hlo : lo ≤ id) => do_err hid (g := 161) (by decide) (a := itxt x) (b := itxt y) (s := []) (e := 30) (by decide) (fun lo => by rw [mul_run hx hy]; show some (outT (x * y),h) = _; unfold outT; rw [if_neg (show ¬ (x * y).natAbs < 10 ^ 200 from hf)]) (lo := lo) hlo
 rw [run_open (x := x124) rfl rfl rfl rfl (by omega)]
 simp (maxSteps := 1000000) (disch := omega) only [go_sem,x124,d,hlo,List.take_length,tk_set]
theorem quot1_run {x y : Int} (hx : Fit x) (hy : Fit y) (h0 : y ≠ 0) (hq : Fit (x / y)) (h : Heap) (lo : Nat) : (run lib).fn 165 [.str (itxt x),.str (itxt y)] h lo = some (.tuple [.str (itxt (x / y)),.int .i64 0],h) := by
 have dv := fun H lo => div_run hx hy h0 H lo
 unfold divT at dv
 have oS : outS (x / y) = itxt (x / y) := if_pos hq
 have oE : outE (x / y) = 0 := if_pos hq
 rw [run_closed (x := x165) rfl rfl rfl rfl]
 simp (maxSteps := 1000000) (disch := omega) only [go_sem,x165,dv,oS,oE]
theorem quot_ok {h : Heap} {id : Nat} (hid : h[id]? = some okB) {x y : Int} (hx : Fit x) (hy : Fit y) (h0 : y ≠ 0) (hq : Fit (x / y)) {lo : Nat} (hlo : lo ≤ id) :
  (run lib).fn 136 [.bptr id 1 0,.str (itxt x),.str (itxt y)] h lo = some (.str (itxt (x / y)),h) := by
 have hlt : id < h.length := (List.getElem?_eq_some_iff.mp hid).1
 have d := fun {lo} (hlo : lo ≤ id) => do_ok hid (g := 165) (by decide) (a := itxt x) (b := itxt y) (s := itxt (x / y)) (fun lo => quot1_run hx hy h0 hq h lo) (lo := lo) hlo
 rw [run_open (x := x136) rfl rfl rfl rfl (by omega)]
 simp (maxSteps := 1000000) (disch := omega) only [go_sem,x136,d,hlo,List.take_length,tk_set]
end Go.VI.Dump
namespace Go.VI.Dump
open Go.VI.Num
theorem cmpN_lt0 (x : Int) : (cmpN x 0 < 0) ↔ x < 0 := by
 unfold cmpN
 by_cases h1 : x < 0
 ·rw [if_pos h1]; omega
 ·rw [if_neg h1]
  by_cases h2 : x = 0
  ·rw [if_pos h2]; omega
  ·rw [if_neg h2]; omega
theorem neg_fit {x : Int} (h : Fit x) : Fit (-x) := by unfold Fit at *; rw [Int.natAbs_neg]; exact h
theorem gcd_ne {n d : Int} (h : d ≠ 0) : ((Int.gcd n d : Nat) : Int) ≠ 0 := by
 intro e
 have : Int.gcd n d = 0 := by omega
 exact h (Int.gcd_eq_zero_iff.mp this).2
theorem txt_nz {d : Int} (h : d ≠ 0) : ¬ itxt d = [48] := fun e => h (itxt_inj (e.trans zero_txt.symm))
theorem reduced_bad {h : Heap} {id : Nat} (hid : h[id]? = some badB) (n d : List UInt8) {lo : Nat} (hlo : lo ≤ id) : (run lib).fn 103 [.bptr id 1 0,.str n,.str d] h lo = some (resO none,h) := by
 have hlt : id < h.length := (List.getElem?_eq_some_iff.mp hid).1
 have p := fun fr => pc_at (get_pre (fr := fr) hid)
 rw [run_open (x := x103) rfl rfl rfl rfl (by omega)]
 simp (maxSteps := 1000000) (disch := omega) only [go_sem,x103,p,resO,frV,List.take_left']
theorem reduced_zero {h : Heap} {id : Nat} (hid : h[id]? = some okB) (n : List UInt8) {lo : Nat} (hlo : lo ≤ id) : (run lib).fn 103 [.bptr id 1 0,.str n,.str [48]] h lo = some (resO none,h) := by
 have hlt : id < h.length := (List.getElem?_eq_some_iff.mp hid).1
 have p := fun fr => pc_at (get_pre (fr := fr) hid)
 rw [run_open (x := x103) rfl rfl rfl rfl (by omega)]
 simp (maxSteps := 1000000) (disch := omega) only [go_sem,x103,p,resO,frV,List.take_left']
theorem reduced_ok {h : Heap} {id : Nat} (hid : h[id]? = some okB) {n d : Int} (hn : Fit n) (hd : Fit d) (h0 : d ≠ 0) {lo : Nat} (hlo : lo ≤ id) :
  (run lib).fn 103 [.bptr id 1 0,.str (itxt n),.str (itxt d)] h lo = some (resO (some (Rat.divInt n d)),h) := by
 have hlt : id < h.length := (List.getElem?_eq_some_iff.mp hid).1
 have p := fun fr => pc_at (get_pre (fr := fr) hid)
 have hz := txt_nz h0
 have cm := fun H lo => compare_run hd fit_zero H lo
 rw [zero_txt] at cm
 have cl := cmpN_lt0 d
 have fin : ∀ {N D : Int},Fit N → Fit D → 0 < D → Rat.divInt N D = Rat.divInt n d → ∃ G : Int,(∀ fr {lo},lo ≤ id → (run lib).fn 125 [.bptr id 1 0,.fn 105 [],.str (itxt N),.str (itxt D)] (h ++ fr) lo = some (.str (itxt G),h ++ fr)) ∧
   (∀ fr {lo},lo ≤ id → (run lib).fn 136 [.bptr id 1 0,.str (itxt N),.str (itxt G)] (h ++ fr) lo = some (.str (itxt (Rat.divInt n d).num),h ++ fr)) ∧
   (∀ fr {lo},lo ≤ id → (run lib).fn 136 [.bptr id 1 0,.str (itxt D),.str (itxt G)] (h ++ fr) lo = some (.str (itxt ((Rat.divInt n d).den : Int)),h ++ fr)) := by
  intro N D hN hD hp he
  have hG := gcd_fit hN hD
  have hG0 := gcd_ne (n := N) (d := D) (by omega)
  refine ⟨(Int.gcd N D : Nat),fun fr lo hlo => do_ok (get_pre (fr := fr) hid) (by decide) (fun lo => gcd_run hN hD _ _) hlo,fun fr lo hlo => ?_,fun fr lo hlo => ?_⟩
  ·rw [← he,divInt_num hp]
   exact quot_ok (get_pre (fr := fr) hid) hN hG hG0 (ediv_fit hN hG0) hlo
  ·rw [← he,divInt_den hp]
   exact quot_ok (get_pre (fr := fr) hid) hD hG hG0 (ediv_fit hD hG0) hlo
 generalize cmpN d 0 = q at *
 rw [run_open (x := x103) rfl rfl rfl rfl (by omega)]
 by_cases c : d < 0
 ·obtain ⟨G,g1,g2,g3⟩ := fin (neg_fit hn) (neg_fit hd) (by omega) (Rat.neg_divInt_neg n d)
  have s1 := fun fr {lo} (hlo : lo ≤ id) => do_ok (h := h ++ fr) (get_pre (fr := fr) hid) (g := 135) (by decide) (a := [48]) (b := itxt n) (s := itxt (-n)) (fun lo => by rw [← zero_txt,sub_run fit_zero hn,Int.zero_sub,outT_fit (neg_fit hn)]) hlo
  have s2 := fun fr {lo} (hlo : lo ≤ id) => do_ok (h := h ++ fr) (get_pre (fr := fr) hid) (g := 135) (by decide) (a := [48]) (b := itxt d) (s := itxt (-d)) (fun lo => by rw [← zero_txt,sub_run fit_zero hd,Int.zero_sub,outT_fit (neg_fit hd)]) hlo
  have cl' : q < 0 := cl.mpr c
  clear fin
  simp (maxSteps := 1000000) (disch := omega) only [go_sem,x103,p,hz,cm,cl',s1,s2,g1,g2,g3,hlo,resO,rt,frV,List.take_left']
 ·obtain ⟨G,g1,g2,g3⟩ := fin hn hd (by omega) rfl
  have cl' : ¬ q < 0 := fun h => c (cl.mp h)
  clear fin
  simp (maxSteps := 1000000) (disch := omega) only [go_sem,x103,p,hz,cm,cl',g1,g2,g3,hlo,resO,rt,frV,List.take_left']
theorem qmake_run {n d : Int} (hn : Fit n) (hd : Fit d) (h : Heap) (lo : Nat) : (run lib).fn 73 [.str (itxt n),.str (itxt d)] h lo = some (resO (makeQ n d),h) := by
 have v1 := fun H lo => valid_run (itxt n) H lo
 have v2 := fun H lo => valid_run (itxt d) H lo
 rw [validS_itxt hn] at v1
 rw [validS_itxt hd] at v2
 unfold makeQ
 rw [run_closed (x := x73) rfl rfl rfl rfl]
 by_cases c : d = 0
 ·subst c
  rw [if_pos rfl,zero_txt] at *
  have r := fun X {lo} hlo => reduced_zero (h := h ++ [okB,X]) (id := h.length + 0) (by rw [get_fr]; rfl) (itxt n) (lo := lo) hlo
  simp (maxSteps := 1000000) (disch := omega) only [go_sem,x73,v1,v2,r,resO,frV]
 ·rw [if_neg c]
  have r := fun X {lo} hlo => reduced_ok (h := h ++ [okB,X]) (id := h.length + 0) (by rw [get_fr]; rfl) hn hd c (lo := lo) hlo
  generalize Rat.divInt n d = Q at *
  simp (maxSteps := 1000000) (disch := omega) only [go_sem,x73,v1,v2,r,resO,rt,frV]
end Go.VI.Dump
namespace Go.VI.Dump
open Go.VI.Num
def chkB (a : Bool) (v : Bool) : Bool := a || !v
theorem check_round {h : Heap} {id : Nat} {a : Bool} (hid : h[id]? = some (1,.box [.bool a])) {lo : Nat} (hlo : lo ≤ id) (es : List AV) (k : Nat) (s t : List UInt8) (he : es[k]? = some (frV s t)) (hl : es.length ≤ 10) (w : Nat) (b : Blk) (hb : b = .dead ∨ ∃ cs,b = .box cs) (r : Option (Ex × Env × Heap))
  (N : Int) (hN : (es.length : Int) = N) (hr : runC lib ⟨lo,h.length,1,none⟩ (.loop b122_0) ([(0,.bptr id 1 0),(6,.lsf 2 es),(7,.int .i64 N),(8,.int .i64 ((k : Int) + 1))],h.set id (1,.box [.bool (chkB a (rvalid s t))]) ++ [(w + 1,.box [.str s,.str t])]) = r) :
  runC lib ⟨lo,h.length,1,none⟩ (.loop b122_0) ([(0,.bptr id 1 0),(6,.lsf 2 es),(7,.int .i64 N),(8,.int .i64 k)],h ++ [(w,b)]) = r := by
 have hlt : id < h.length := (List.getElem?_eq_some_iff.mp hid).1
 have hk : k < es.length := (List.getElem?_eq_some_iff.mp he).1
 have p := fun fr => pc_at (get_pre (fr := fr) hid)
 have st := fun fr (c : Bool) => ps_at (H := h ++ fr) (base := h.length) (ns := 1) (b := c) (get_pre (fr := fr) hid) hlo none
 have sp := fun fr c => set_pre (fr := fr) c hid
 simp only [sp] at st
 have c1 : (k : Int) < N := by omega
 have hs : Sl (h ++ [(w,b)]) 2 (.lsf 2 es) es := (show PureSl 2 (.lsf 2 es) es from .inr ⟨2,.inr rfl,.inl rfl⟩).sl _
 have e3 : sidx 2 (.lsf 2 es) (.int .i64 k) = some k := by rw [sidx_sl hs (by omega) (by omega)]; simp
 have e4 : ∀ off fr,pcells (h ++ fr) (.iptr (.lsf 2 es) k off) = some ((frV s t).cells.drop off) := fun off fr => by
  have := pc_iptr (off := off) ((show PureSl 2 (.lsf 2 es) es from .inr ⟨2,.inr rfl,.inl rfl⟩).sl (h ++ fr)).elems0 hk
  rw [this]
  have : es[k] = frV s t := by rw [List.getElem?_eq_getElem hk] at he; exact Option.some.inj he
  rw [this]
 have v := fun H lo => qvalid_run s t H lo
 simp only [frV,AV.cells] at e4 v
 rw [w_loop]
 cases a with
 | true =>
  simp only [chkB,Bool.true_or] at hr
  rcases hb with rfl | ⟨cs,rfl⟩
  ·simp (maxSteps := 1000000) (disch := omega) only [go_sem,c1,e3,e4,p,st]
   exact hr
  ·simp (maxSteps := 1000000) (disch := omega) only [go_sem,c1,e3,e4,p,st]
   exact hr
 | false =>
  cases c2 : rvalid s t with
  | true =>
   rw [c2] at v hr
   simp only [chkB,Bool.false_or,Bool.not_true] at hr
   rcases hb with rfl | ⟨cs,rfl⟩
   ·simp (maxSteps := 1000000) (disch := omega) only [go_sem,c1,e3,e4,p,v,st]
    exact hr
   ·simp (maxSteps := 1000000) (disch := omega) only [go_sem,c1,e3,e4,p,v,st]
    exact hr
  | false =>
   rw [c2] at v hr
   simp only [chkB,Bool.false_or,Bool.not_false] at hr
   rcases hb with rfl | ⟨cs,rfl⟩
   ·simp (maxSteps := 1000000) (disch := omega) only [go_sem,c1,e3,e4,p,v,st]
    exact hr
   ·simp (maxSteps := 1000000) (disch := omega) only [go_sem,c1,e3,e4,p,v,st]
    exact hr
theorem tk_app (h : Heap) (id : Nat) (X : Nat × Blk) (fr : Heap) : (h.set id X ++ fr).take h.length = h.set id X := by
 rw [List.take_append_of_le_length (by simp),List.take_of_length_le (by simp)]
theorem check_end {lo B : Nat} (H : Heap) (id : Nat) (es : List AV) (N : Int) : runC lib ⟨lo,B,1,none⟩ (.loop b122_0) ([(0,.bptr id 1 0),(6,.lsf 2 es),(7,.int .i64 N),(8,.int .i64 N)],H) = some (.exit 0,([],H)) := by
 rw [w_loop]
 simp (maxSteps := 1000000) (disch := omega) only [go_sem,Int.lt_irrefl]
theorem check2_run {h : Heap} {id : Nat} (hid : h[id]? = some okB) (s t u v : List UInt8) {lo : Nat} (hlo : lo ≤ id) : (run lib).fn 122 [.bptr id 1 0,.lsf 2 [frV s t,frV u v]] h lo = some (.tuple [],h.set id (1,.box [.bool (!(rvalid s t && rvalid u v))])) := by
 have hlt : id < h.length := (List.getElem?_eq_some_iff.mp hid).1
 have e : (chkB (chkB false (rvalid s t)) (rvalid u v)) = !(rvalid s t && rvalid u v) := by unfold chkB; cases rvalid s t <;> cases rvalid u v <;> rfl
 have hid2 : (h.set id (1,.box [.bool (chkB false (rvalid s t))]))[id]? = some (1,.box [.bool (chkB false (rvalid s t))]) := List.getElem?_set_self hlt
 have c2 := check_round (h := h.set id (1,.box [.bool (chkB false (rvalid s t))])) hid2 hlo [frV s t,frV u v] 1 u v rfl (by simp) 1 (.box [.str s,.str t]) (.inr ⟨_,rfl⟩) _ 2 rfl (check_end _ id [frV s t,frV u v] 2)
 rw [List.length_set,List.set_set,e] at c2
 have lp := check_round (a := false) hid hlo [frV s t,frV u v] 0 s t rfl (by simp) 0 .dead (.inl rfl) _ 2 rfl c2
 have ln : lenv false (.lsf 2 [frV s t,frV u v]) = some (.int .i64 2) := rfl
 simp only [Int.natCast_zero] at lp
 generalize [frV s t,frV u v] = es at *
 rw [run_open (x := x122) rfl rfl rfl rfl (by omega)]
 simp (maxSteps := 1000000) (disch := omega) only [go_sem,x122,ln,lp,tk_app]
end Go.VI.Dump
namespace Go.VI.Dump
open Go.VI.Num
theorem fitZ_t {z : Int} (h : Fit z) : fitZ z = true := decide_eq_true h
theorem fitZ_f {z : Int} (h : ¬ Fit z) : fitZ z = false := decide_eq_false h
theorem den_ne (q : Rat) : (q.den : Int) ≠ 0 := by have := q.den_pos; omega
theorem den2_ne (a b : Rat) : (a.den : Int) * b.den ≠ 0 := Int.mul_ne_zero (den_ne a) (den_ne b)
section
variable (h : Heap)
theorem at_ok (X : Nat × Blk) : (h ++ [okB,X])[h.length + 0]? = some okB := by rw [get_fr]; rfl
theorem at_bad (X : Nat × Blk) : (h ++ [badB,X])[h.length + 0]? = some badB := by rw [get_fr]; rfl
theorem to_bad (X : Nat × Blk) : (h ++ [okB,X]).set (h.length + 0) badB = h ++ [badB,X] := by rw [set_fr]; rfl
theorem to_same (X : Nat × Blk) : (h ++ [okB,X]).set (h.length + 0) okB = h ++ [okB,X] := by rw [set_fr]; rfl
theorem ck_ok {s t u v : List UInt8} (h1 : rvalid s t = true) (h2 : rvalid u v = true) (X : Nat × Blk) {lo : Nat} (hlo : lo ≤ h.length + 0) : (run lib).fn 122 [.bptr (h.length + 0) 1 0,.lsf 2 [.agg [.str s,.str t],.agg [.str u,.str v]]] (h ++ [okB,X]) lo = some (.tuple [],h ++ [okB,X]) := by
 have := check2_run (at_ok h X) s t u v hlo
 rw [h1,h2] at this
 exact this.trans (congrArg (fun H => some (AV.tuple [],H)) (to_same h X))
theorem m_ok {x y z : Int} (hx : Fit x) (hy : Fit y) (e : z = x * y) (hf : Fit z) (X : Nat × Blk) {lo : Nat} (hlo : lo ≤ h.length + 0) : (run lib).fn 124 [.bptr (h.length + 0) 1 0,.str (itxt x),.str (itxt y)] (h ++ [okB,X]) lo = some (.str (itxt z),h ++ [okB,X]) := by
 subst e; exact wmul_ok (at_ok h X) hx hy hf hlo
theorem m_err {x y z : Int} (hx : Fit x) (hy : Fit y) (e : z = x * y) (hf : ¬ Fit z) (X : Nat × Blk) {lo : Nat} (hlo : lo ≤ h.length + 0) : (run lib).fn 124 [.bptr (h.length + 0) 1 0,.str (itxt x),.str (itxt y)] (h ++ [okB,X]) lo = some (.str [],h ++ [badB,X]) := by
 subst e; rw [← to_bad h X]; exact wmul_err (at_ok h X) hx hy hf hlo
theorem m_bad (a b : List UInt8) (X : Nat × Blk) {lo : Nat} (hlo : lo ≤ h.length + 0) : (run lib).fn 124 [.bptr (h.length + 0) 1 0,.str a,.str b] (h ++ [badB,X]) lo = some (.str [],h ++ [badB,X]) := mul_bad' (at_bad h X) a b hlo
theorem d_bad (f : AV) (a b : List UInt8) (X : Nat × Blk) {lo : Nat} (hlo : lo ≤ h.length + 0) : (run lib).fn 125 [.bptr (h.length + 0) 1 0,f,.str a,.str b] (h ++ [badB,X]) lo = some (.str [],h ++ [badB,X]) := do_bad (at_bad h X) f a b hlo
theorem d_ok {g : Nat} (hg0 : g < 1000) {x y z : Int} (hg : ∀ h lo,(run lib).fn g [.str (itxt x),.str (itxt y)] h lo = some (outT z,h)) (hf : Fit z) (X : Nat × Blk) {lo : Nat} (hlo : lo ≤ h.length + 0) : (run lib).fn 125 [.bptr (h.length + 0) 1 0,.fn g [],.str (itxt x),.str (itxt y)] (h ++ [okB,X]) lo = some (.str (itxt z),h ++ [okB,X]) :=
 do_ok (at_ok h X) hg0 (fun lo => by rw [hg,outT_fit hf]) hlo
theorem d_err {g : Nat} (hg0 : g < 1000) {x y z : Int} (hg : ∀ h lo,(run lib).fn g [.str (itxt x),.str (itxt y)] h lo = some (outT z,h)) (hf : ¬ Fit z) (X : Nat × Blk) {lo : Nat} (hlo : lo ≤ h.length + 0) : (run lib).fn 125 [.bptr (h.length + 0) 1 0,.fn g [],.str (itxt x),.str (itxt y)] (h ++ [okB,X]) lo = some (.str [],h ++ [badB,X]) := by
 rw [← to_bad h X]
 exact do_err (at_ok h X) hg0 (e := 30) (by decide) (fun lo => by rw [hg]; unfold outT; rw [if_neg (show ¬ z.natAbs < 10 ^ 200 from hf)]) hlo
theorem r_bad (n d : List UInt8) (X : Nat × Blk) {lo : Nat} (hlo : lo ≤ h.length + 0) : (run lib).fn 103 [.bptr (h.length + 0) 1 0,.str n,.str d] (h ++ [badB,X]) lo = some (.tuple [.agg [.str [],.str []],.int .i64 40],h ++ [badB,X]) := reduced_bad (at_bad h X) n d hlo
theorem r_ok {n d : Int} (hn : Fit n) (hd : Fit d) (h0 : d ≠ 0) (X : Nat × Blk) {lo : Nat} (hlo : lo ≤ h.length + 0) : (run lib).fn 103 [.bptr (h.length + 0) 1 0,.str (itxt n),.str (itxt d)] (h ++ [okB,X]) lo = some (.tuple [.agg [.str (itxt (Rat.divInt n d).num),.str (itxt ((Rat.divInt n d).den : Int))],.int .i64 0],h ++ [okB,X]) := reduced_ok (at_ok h X) hn hd h0 hlo
theorem r_zero (n : Int) (X : Nat × Blk) {lo : Nat} (hlo : lo ≤ h.length + 0) : (run lib).fn 103 [.bptr (h.length + 0) 1 0,.str (itxt n),.str (itxt 0)] (h ++ [okB,X]) lo = some (.tuple [.agg [.str [],.str []],.int .i64 40],h ++ [okB,X]) := reduced_zero (at_ok h X) _ hlo
end
end Go.VI.Dump
namespace Go.VI.Dump
open Go.VI.Num
theorem cl_cptr (cs : List AV) : (AV.cptr cs).closed = true := by simp [AV.closed]
theorem qdiv_run {a b : Rat} (ha : FitQ a) (hb : FitQ b) (h : Heap) (lo : Nat) : (run lib).fn 133 [rt a,rt b] h lo = some (resO (divQ a b),h) := by
 have ck := fun X {lo} hlo => ck_ok h (rvalid_itxt ha) (rvalid_itxt hb) X (lo := lo) hlo
 have q := q_div a b
 have qz := q_div_zero (a := a) (b := b)
 unfold divQ rt frV
 obtain ⟨x,ex⟩ : ∃ x,x = a.num * b.den := ⟨_,rfl⟩
 obtain ⟨y,ey⟩ : ∃ y,y = (a.den : Int) * b.num := ⟨_,rfl⟩
 rw [← ex,← ey] at q ⊢
 rw [← ey] at qz
 rw [run_closed (x := x133) rfl rfl rfl rfl]
 by_cases c1 : Fit x
 ·have m1 := fun X {lo} hlo => m_ok h ha.1 (den_fit hb) ex c1 X (lo := lo) hlo
  rw [fitZ_t c1]
  by_cases c2 : Fit y
  ·have m2 := fun X {lo} hlo => m_ok h (den_fit ha) hb.1 ey c2 X (lo := lo) hlo
   rw [fitZ_t c2]
   by_cases c3 : b = 0
   ·have r := fun X {lo} hlo => r_zero h x X (lo := lo) hlo
    have y0 : y = 0 := qz.mpr c3
    rw [y0] at m2
    rw [decide_eq_false (show ¬ b ≠ 0 from fun h => h c3)]
    simp (maxSteps := 1000000) (disch := omega) only [go_sem,x133,ck,m1,m2,r,resO,rt,frV]
   ·have hd : y ≠ 0 := fun h => c3 (qz.mp h)
    have r := fun X {lo} hlo => r_ok h c1 c2 hd X (lo := lo) hlo
    rw [q] at r
    rw [decide_eq_true (show b ≠ 0 from c3)]
    generalize a / b = Q at *
    simp (maxSteps := 1000000) (disch := omega) only [go_sem,x133,ck,m1,m2,r,resO,rt,frV]
  ·have m2 := fun X {lo} hlo => m_err h (den_fit ha) hb.1 ey c2 X (lo := lo) hlo
   rw [fitZ_f c2]
   simp (maxSteps := 1000000) (disch := omega) only [go_sem,x133,ck,m1,m2,r_bad,resO,rt,frV]
 ·have m1 := fun X {lo} hlo => m_err h ha.1 (den_fit hb) ex c1 X (lo := lo) hlo
  rw [fitZ_f c1]
  simp (maxSteps := 1000000) (disch := omega) only [go_sem,x133,ck,m1,m_bad,r_bad,resO,rt,frV]
theorem qsum_run {g : Nat} (hg0 : g < 1000) {a b : Rat} (ha : FitQ a) (hb : FitQ b) {z : Int} (hg : Fit (a.num * b.den) → Fit (b.num * a.den) → ∀ h lo,(run lib).fn g [.str (itxt (a.num * b.den)),.str (itxt (b.num * a.den))] h lo = some (outT z,h)) (h : Heap) (lo : Nat) :
  (run lib).fn 157 [.fn g [],rt a,rt b] h lo = some (resO (if fitZ (a.num * b.den) && fitZ (b.num * a.den) && fitZ z && fitZ ((a.den : Int) * b.den) then some (Rat.divInt z ((a.den : Int) * b.den)) else none),h) := by
 have ck := fun X {lo} hlo => ck_ok h (rvalid_itxt ha) (rvalid_itxt hb) X (lo := lo) hlo
 have hd := den2_ne a b
 unfold rt frV
 obtain ⟨x,ex⟩ : ∃ x,x = a.num * b.den := ⟨_,rfl⟩
 obtain ⟨u,eu⟩ : ∃ u,u = b.num * a.den := ⟨_,rfl⟩
 obtain ⟨y,ey⟩ : ∃ y,y = (a.den : Int) * b.den := ⟨_,rfl⟩
 rw [← ex,← eu] at hg
 rw [← ex,← eu,← ey]
 rw [← ey] at hd
 rw [run_closed (x := x157) rfl rfl rfl rfl]
 by_cases c1 : Fit x
 ·have m1 := fun X {lo} hlo => m_ok h ha.1 (den_fit hb) ex c1 X (lo := lo) hlo
  rw [fitZ_t c1]
  by_cases c2 : Fit u
  ·have m2 := fun X {lo} hlo => m_ok h hb.1 (den_fit ha) eu c2 X (lo := lo) hlo
   rw [fitZ_t c2]
   by_cases c3 : Fit z
   ·have d := fun X {lo} hlo => d_ok h hg0 (hg c1 c2) c3 X (lo := lo) hlo
    rw [fitZ_t c3]
    by_cases c4 : Fit y
    ·have m3 := fun X {lo} hlo => m_ok h (den_fit ha) (den_fit hb) ey c4 X (lo := lo) hlo
     have r := fun X {lo} hlo => r_ok h c3 c4 hd X (lo := lo) hlo
     rw [fitZ_t c4]
     generalize Rat.divInt z y = Q at *
     simp (maxSteps := 1000000) (disch := omega) only [go_sem,x157,cl_cptr,ck,m1,m2,d,m3,r,resO,rt,frV]
    ·have m3 := fun X {lo} hlo => m_err h (den_fit ha) (den_fit hb) ey c4 X (lo := lo) hlo
     rw [fitZ_f c4]
     simp (maxSteps := 1000000) (disch := omega) only [go_sem,x157,cl_cptr,ck,m1,m2,d,m3,r_bad,resO,rt,frV]
   ·have d := fun X {lo} hlo => d_err h hg0 (hg c1 c2) c3 X (lo := lo) hlo
    rw [fitZ_f c3]
    simp (maxSteps := 1000000) (disch := omega) only [go_sem,x157,cl_cptr,ck,m1,m2,d,m_bad,r_bad,resO,rt,frV]
  ·have m2 := fun X {lo} hlo => m_err h hb.1 (den_fit ha) eu c2 X (lo := lo) hlo
   rw [fitZ_f c2]
   simp (maxSteps := 1000000) (disch := omega) only [go_sem,x157,cl_cptr,ck,m1,m2,d_bad,m_bad,r_bad,resO,rt,frV]
 ·have m1 := fun X {lo} hlo => m_err h ha.1 (den_fit hb) ex c1 X (lo := lo) hlo
  rw [fitZ_f c1]
  simp (maxSteps := 1000000) (disch := omega) only [go_sem,x157,cl_cptr,ck,m1,d_bad,m_bad,r_bad,resO,rt,frV]
theorem resO_cells (o : Option Rat) : ∃ s t e,resO o = .tuple [.agg [.str s,.str t],.int .i64 e] := by
 cases o with
 | none => exact ⟨_,_,_,rfl⟩
 | some q => exact ⟨_,_,_,rfl⟩
theorem qsub_run {a b : Rat} (ha : FitQ a) (hb : FitQ b) (h : Heap) (lo : Nat) : (run lib).fn 119 [rt a,rt b] h lo = some (resO (subQ a b),h) := by
 have s := fun H lo => qsum_run (g := 135) (by decide) ha hb (z := a.num * b.den - b.num * a.den) (fun h1 h2 H lo => sub_run h1 h2 H lo) H lo
 rw [q_sub] at s
 unfold subQ
 generalize (if fitZ (a.num * b.den) && fitZ (b.num * a.den) && fitZ (a.num * b.den - b.num * a.den) && fitZ ((a.den : Int) * b.den) then some (a - b) else none) = o at *
 obtain ⟨s1,s2,e,he⟩ := resO_cells o
 rw [he] at s ⊢
 unfold rt frV at s ⊢
 rw [run_closed (x := x119) rfl rfl rfl rfl]
 simp (maxSteps := 1000000) (disch := omega) only [go_sem,x119,s]
theorem qof_run {n d : Int} (hn : Fit n) (hd : Fit d) (hn1 : -9223372036854775808 ≤ n ∧ n ≤ 9223372036854775807) (hd1 : -9223372036854775808 ≤ d ∧ d ≤ 9223372036854775807) (h : Heap) (lo : Nat) : (run lib).fn 39 [.int .i64 n,.int .i64 d] h lo = some (resO (makeQ n d),h) := by
 have f1 := fun H lo => fromint_run hn1.1 hn1.2 H lo
 have f2 := fun H lo => fromint_run hd1.1 hd1.2 H lo
 have m := fun H lo => qmake_run hn hd H lo
 obtain ⟨s1,s2,e,he⟩ := resO_cells (makeQ n d)
 rw [he] at m ⊢
 rw [run_closed (x := x39) rfl rfl rfl rfl]
 simp (maxSteps := 1000000) (disch := omega) only [go_sem,x39,f1,f2,m]
end Go.VI.Dump
namespace Go.VI.Dump
open Go.VI.Num
theorem cmpN_cases (x y : Int) : (cmpN x y = -1 ∧ x < y) ∨ (cmpN x y = 0 ∧ x = y) ∨ (cmpN x y = 1 ∧ y < x) := by
 unfold cmpN
 by_cases h1 : x < y
 ·rw [if_pos h1]; omega
 ·rw [if_neg h1]
  by_cases h2 : x = y
  ·rw [if_pos h2]; omega
  ·rw [if_neg h2]; omega
theorem cmp_loop (h : Heap) : ∀ (k : Nat) (n d m c σ : Int),d.toNat ≤ k → 0 < d → 0 < c → Fit n → Fit d → Fit m → Fit c → (σ = 1 ∨ σ = -1) → ∃ env' fr',fr'.length = 2 ∧
  runC lib ⟨h.length,h.length,2,none⟩ (.loop b42_0) ([(2,.bptr (h.length + 0) 1 0),(3,.bptr (h.length + 1) 1 0),(5,.int .i64 σ)],h ++ [(1,.box [.str (itxt n),.str (itxt d)]),(1,.box [.str (itxt m),.str (itxt c)])]) =
   some (.ret,(env',h ++ fr')) ∧ env'.get 4 = .int .i64 (σ * cmpN (n * c) (m * d)) := by
 intro k
 induction k with
 | zero => intro n d m c σ h1 h2; omega
 | succ k ih =>
  intro n d m c σ hk hd hc fn fd fm fc hσ
  have v1 := fun H lo => div_run fn fd (by omega) H lo
  have v2 := fun H lo => div_run fm fc (by omega) H lo
  unfold divT at v1 v2
  have fp := ediv_fit fn (show d ≠ 0 by omega)
  have fq := ediv_fit fm (show c ≠ 0 by omega)
  have fr := emod_fit (x := n) fd (by omega)
  have fs := emod_fit (x := m) fc (by omega)
  have cm := fun H lo => compare_run fp fq H lo
  have ne := round_ne (n := n) (m := m) hd hc
  have eq := round_eq (n := n) (d := d) (m := m) (c := c)
  have r0 := Int.emod_nonneg n (show d ≠ 0 by omega)
  have s0 := Int.emod_nonneg m (show c ≠ 0 by omega)
  have r1 := Int.emod_lt_of_pos n hd
  have s1 := Int.emod_lt_of_pos m hc
  have cc := cmpN_cases (n / d) (m / c)
  generalize n / d = p at *
  generalize m / c = q at *
  generalize n % d = r at *
  generalize m % c = s at *
  rcases cc with ⟨e,l⟩ | ⟨e,l⟩ | ⟨e,l⟩
  ·have e2 := ne (by omega)
   rw [e] at e2 cm
   refine ⟨[(4,.int .i64 (σ * -1))],[(1,.box [.str (itxt n),.str (itxt d)]),(1,.box [.str (itxt m),.str (itxt c)])],rfl, ?_,by rw [← e2]; rfl⟩
   rw [w_loop]
   rcases hσ with rfl | rfl
   ·simp (maxSteps := 1000000) (disch := omega) only [go_sem,v1,v2,cm]
   ·simp (maxSteps := 1000000) (disch := omega) only [go_sem,v1,v2,cm]
  ·have e2 := eq l
   rw [e] at cm
   by_cases hr : r = 0
   ·subst hr
    rw [zero_txt] at v1
    rw [Int.zero_mul] at e2
    by_cases hs : s = 0
    ·subst hs
     rw [zero_txt] at v2
     refine ⟨[(4,.int .i64 0)],[(1,.box [.str (itxt n),.str (itxt d)]),(1,.box [.str (itxt m),.str (itxt c)])],rfl, ?_,by rw [e2,Int.zero_mul,show cmpN 0 0 = 0 from rfl,Int.mul_zero]; rfl⟩
     rw [w_loop]
     rcases hσ with rfl | rfl
     ·simp (maxSteps := 1000000) (disch := omega) only [go_sem,v1,v2,cm]
     ·simp (maxSteps := 1000000) (disch := omega) only [go_sem,v1,v2,cm]
    ·have hz := txt_nz hs
     have hp : 0 < s * d := Int.mul_pos (by omega) hd
     refine ⟨[(4,.int .i64 (-σ))],[(1,.box [.str (itxt n),.str (itxt d)]),(1,.box [.str (itxt m),.str (itxt c)])],rfl, ?_,by rw [e2,show cmpN 0 (s * d) = -1 from if_pos hp,Int.mul_neg,Int.mul_one]; rfl⟩
     rw [w_loop]
     rcases hσ with rfl | rfl
     ·simp (maxSteps := 1000000) (disch := omega) only [go_sem,v1,v2,cm,hz]
     ·simp (maxSteps := 1000000) (disch := omega) only [go_sem,v1,v2,cm,hz]
   ·have hy := txt_nz hr
    by_cases hs : s = 0
    ·subst hs
     rw [zero_txt] at v2
     have hp : 0 < r * c := Int.mul_pos (by omega) hc
     refine ⟨[(4,.int .i64 σ)],[(1,.box [.str (itxt n),.str (itxt d)]),(1,.box [.str (itxt m),.str (itxt c)])],rfl, ?_,by rw [e2,Int.zero_mul,show cmpN (r * c) 0 = 1 from by unfold cmpN; rw [if_neg (by omega),if_neg (by omega)],Int.mul_one]; rfl⟩
     rw [w_loop]
     rcases hσ with rfl | rfl
     ·simp (maxSteps := 1000000) (disch := omega) only [go_sem,v1,v2,cm,hy]
     ·simp (maxSteps := 1000000) (disch := omega) only [go_sem,v1,v2,cm,hy]
    ·have hz := txt_nz hs
     obtain ⟨env',fr',l',w',g'⟩ := ih d r c s (-σ) (by omega) (by omega) (by omega) fd fr fc fs (by omega)
     refine ⟨env',fr',l', ?_, ?_⟩
     ·have hne1 : ¬ h.length + 0 = h.length + 1 := by omega
      have hne2 : ¬ h.length + 1 = h.length + 0 := by omega
      rw [w_loop]
      rcases hσ with rfl | rfl
      ·simp (maxSteps := 1000000) (disch := omega) only [go_sem,v1,v2,cm,hy,hz,hne1,hne2]
       exact w'
      ·simp (maxSteps := 1000000) (disch := omega) only [go_sem,v1,v2,cm,hy,hz,hne1,hne2]
       exact w'
     ·rw [g',e2,round_swap,Int.neg_mul_neg]
  ·have e2 := ne (by omega)
   rw [e] at e2 cm
   refine ⟨[(4,.int .i64 (σ * 1))],[(1,.box [.str (itxt n),.str (itxt d)]),(1,.box [.str (itxt m),.str (itxt c)])],rfl, ?_,by rw [← e2]; rfl⟩
   rw [w_loop]
   rcases hσ with rfl | rfl
   ·simp (maxSteps := 1000000) (disch := omega) only [go_sem,v1,v2,cm]
   ·simp (maxSteps := 1000000) (disch := omega) only [go_sem,v1,v2,cm]
theorem qcompare_run {a b : Rat} (ha : FitQ a) (hb : FitQ b) (h : Heap) (lo : Nat) : (run lib).fn 42 [rt a,rt b] h lo = some (.int .i64 (cmpQ a b),h) := by
 have va := fun H lo => qvalid_run (itxt a.num) (itxt (a.den : Int)) H lo
 have vb := fun H lo => qvalid_run (itxt b.num) (itxt (b.den : Int)) H lo
 rw [rvalid_itxt ha] at va
 rw [rvalid_itxt hb] at vb
 obtain ⟨env',fr',l,w,g⟩ := cmp_loop h _ a.num (a.den : Int) b.num (b.den : Int) 1 (Nat.le_refl _) (by have := a.den_pos; omega) (by have := b.den_pos; omega) ha.1 (den_fit ha) hb.1 (den_fit hb) (.inl rfl)
 rw [Int.one_mul] at g
 unfold cmpQ
 unfold rt frV at *
 rw [run_closed (x := x42) rfl rfl rfl rfl]
 simp (maxSteps := 1000000) (disch := omega) only [go_sem,x42,va,vb,w,g,List.take_left']
end Go.VI.Dump
namespace Go.VI.Dump
open Go.VI.Num
end Go.VI.Dump
