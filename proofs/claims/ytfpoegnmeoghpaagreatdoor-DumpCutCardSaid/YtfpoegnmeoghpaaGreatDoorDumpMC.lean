/- What the functions on integers compute, part MC. -/
import Derived.Test.YtfpoegnmeoghpaaGreatDoorDumpMB
import Derived.Test.YtfpoegnmeoghpaaGreatDoorDumpMA
set_option linter.unusedVariables false
set_option linter.unusedSimpArgs false
namespace Go.VI.Dump
open Go.VI.Num
theorem div_step {d T m R : Nat} (hm : m ≠ 0) (hR : R = T % m) : (d + 10000 * T) / m = (d + 10000 * R) / m + 10000 * (T / m) ∧ (d + 10000 * T) % m = (d + 10000 * R) % m := by
 have h := Nat.div_add_mod T m
 have e : d + 10000 * T = (d + 10000 * R) + m * (10000 * (T / m)) := by
  have e1 : m * (10000 * (T / m)) = 10000 * (m * (T / m)) := by rw [← Nat.mul_assoc,Nat.mul_comm m 10000,Nat.mul_assoc]
  rw [e1,hR]
  generalize m * (T / m) = X at *
  omega
 rw [e]
 exact ⟨Nat.add_mul_div_left _ _ (by omega),Nat.add_mul_mod_self_left _ _ _⟩
theorem drop_set_self {q : List Int} {k : Nat} (hk : k < q.length) (x : Int) : (q.set k x).drop k = x :: q.drop (k + 1) := by
 rw [List.drop_eq_getElem_cons (by simpa using hk)]
 simp [List.drop_set]
end Go.VI.Dump
namespace Go.VI.Dump
open Go.VI.Num
def ovI (a m N k : Nat) (s : OvS) : Prop := s.q.length = N ∧ PureSl 1 s.rv (ints (grp s.R)) ∧ s.rv.val = true ∧ s.R = (gv ((grp a).drop k)).toNat % m ∧ gv (s.q.drop k) = ((gv ((grp a).drop k)).toNat / m : Nat) ∧ Dig (s.q.drop k)
theorem ovI_step {u : AV} {a m N : Nat} (hm : m ≠ 0) (hN : N = (grp a).length) (k : Nat) (s : OvS) (hk : k < N) (d : Nat) (hd : ((grp a).getD k 0).toNat = d) (hi : ovI a m N (k + 1) s) : ovI a m N k (ovT u m d k s) := by
 obtain ⟨h1,h2,h3,h4,h5,h6⟩ := hi
 have hka : k < (grp a).length := by omega
 have gm : (grp a).getD k 0 = (grp a)[k] := by rw [List.getD_eq_getElem?_getD,List.getElem?_eq_getElem hka]; rfl
 have hx := dig_grp a (grp a)[k] (List.getElem_mem hka)
 have hdg : Dig ((grp a).drop (k + 1)) := fun x hx => dig_grp a x (List.mem_of_mem_drop hx)
 have hg := gv_nn hdg
 rw [gm] at hd
 have hT : (gv ((grp a).drop k)).toNat = d + 10000 * (gv ((grp a).drop (k + 1))).toNat := by
  rw [List.drop_eq_getElem_cons hka,gv]; omega
 obtain ⟨e1,e2⟩ := div_step (d := d) hm h4
 have hRm : s.R < m := by rw [h4]; exact Nat.mod_lt _ (by omega)
 have ht : (d + 10000 * s.R) / m ≤ 9999 := by
  have h9 : d ≤ 9999 := by omega
  have := Nat.div_lt_of_lt_mul (show d + 10000 * s.R < m * 10000 by omega)
  omega
 refine ⟨by simp [ovT,h1],.inr ⟨1,.inl rfl,.inl rfl⟩,rfl, ?_, ?_, ?_⟩
 ·rw [hT,e2]; rfl
 ·simp only [ovT]
  rw [drop_set_self (by omega),gv,h5,hT,e1]
  generalize (d + 10000 * s.R) / m = t
  generalize (gv ((grp a).drop (k + 1))).toNat / m = Q
  omega
 ·simp only [ovT]
  rw [drop_set_self (by omega)]
  refine Dig.cons.mpr ⟨?_,h6⟩
  generalize (d + 10000 * s.R) / m = t at *
  omega
end Go.VI.Dump
namespace Go.VI.Dump
open Go.VI.Num
theorem trimR_loop {l : List Int} (hl : l.length ≤ 1000000) (cx : Cx) (H : Heap) (id : Nat) (hid : H[id]? = some (1,.arr 1 (ints l))) : ∀ k : Nat,k ≤ l.length →
  runC lib cx (.loop b146_0) ([(0,.ref id 1 1 0 k l.length)],H) = some (.exit 0,([(0,.ref id 1 1 0 (trimK l k) l.length)],H)) := by
 intro k
 induction k with
 | zero =>
  intro hk
  rw [w_loop]
  have s3 : lenv false (.ref id 1 1 0 0 l.length) = some (.int .i64 0) := rfl
  simp only [trimK]
  simp (maxSteps := 1000000) (disch := omega) only [go_sem,s3,Int.lt_irrefl]
 | succ k ih =>
  intro hk
  have s3 : lenv false (.ref id 1 1 0 (k + 1) l.length) = some (.int .i64 ((k : Int) + 1)) := rfl
  have c1 : (0 : Int) < (k : Int) + 1 := by omega
  have e0 : (k : Int) + 1 - 1 = k := by omega
  have e3 : sidx 1 (.ref id 1 1 0 (k + 1) l.length) (.int .i64 k) = some k := by simp [sidx,zok,slen,idx]
  have hg : l.getD k 0 = l[k] := by rw [List.getD_eq_getElem?_getD,List.getElem?_eq_getElem (by omega)]; rfl
  have e4 : pcells H (.iptr (.ref id 1 1 0 (k + 1) l.length) k 0) = some [.int .i64 l[k]] := by
   have hb : k + 1 ≤ l.length := hk
   have hk' : k < l.length := by omega
   simp only [pcells,asList0,hid,ints_len]
   simp [hb,ints,List.getElem?_take,hk',AV.cells]
  have hsl : slicev (some 1) (.ref id 1 1 0 (k + 1) l.length) none (some (.int .i64 k)) = some (.ref id 1 1 0 k l.length) := by
   have hb : bnd (some (.int .i64 k)) (k + 1) (k + 1) = some k := by rw [bnd_ok (by omega) (by omega)]; simp
   rw [slicev_ref,hb]
   simp [bnd]
  have ih' := ih (by omega)
  simp only [trimK,hg]
  rw [w_loop]
  by_cases c2 : l[k] = 0
  ·rw [if_pos c2]
   simp (maxSteps := 1000000) (disch := omega) only [go_sem,s3,c1,e0,e3,e4,c2,hsl,ih']
  ·rw [if_neg c2]
   simp (maxSteps := 1000000) (disch := omega) only [go_sem,s3,c1,e0,e3,e4,c2]
theorem trimR_run {l : List Int} (hl : l.length ≤ 1000000) (h : Heap) (id : Nat) (hid : h[id]? = some (1,.arr 1 (ints l))) (N : Nat) (hN : l.length = N) (lo : Nat) : (run lib).fn 146 [.ref id 1 1 0 N N] h lo = some (.ref id 1 1 0 (trimL l).length N,h) := by
 subst hN
 have e := fun cx => trimR_loop hl cx h id hid l.length (Nat.le_refl _)
 have hlt : id < h.length := (List.getElem?_eq_some_iff.mp hid).1
 have hg : ∀ t N,giveRes h.length (.ref id 1 1 0 t N) h = some (.ref id 1 1 0 t N) := fun t N => by
  simp [giveRes,give,frz,show ¬ h.length ≤ id by omega]
 have ht : (trimL l).length = trimK l l.length := by
  have := trimK_le l l.length
  simp [trimL]; omega
 rw [run_closed (x := x146) rfl rfl rfl rfl,ht]
 simp (maxSteps := 1000000) (disch := omega) only [go_sem,x146,e,hg,Option.map_some]
def ovQ (a m : Nat) : AV := if (grp (a / m)).length = (grp a).length then .own 1 (ints (grp (a / m))) else .lst 1 (ints (grp (a / m)))
def remA (a m : Nat) : AV := if a = 0 then .own 0 [] else .lst 1 (ints (grp (a % m)))
def remV (a m : Nat) : AV := if a = 0 then .lst 0 [] else .lst 1 (ints (grp (a % m)))
@[go_sem] theorem weak1_ovQ (a m : Nat) : weak1 (ovQ a m) = .lst 1 (ints (grp (a / m))) := by unfold ovQ; split <;> rfl
@[go_sem] theorem weak1_remA (a m : Nat) : weak1 (remA a m) = remV a m := by unfold remA remV; split <;> rfl
@[go_sem] theorem remV_val (a m : Nat) : (remV a m).val = true := by unfold remV; split <;> rfl
@[go_sem] theorem remV_cells (a m : Nat) : (remV a m).cells = [remV a m] := by unfold remV; split <;> rfl
@[go_sem] theorem remV_closed (a m : Nat) : (remV a m).closed = true := by unfold remV; split <;> rfl
theorem remV_pure (a m : Nat) : PureSl 1 (remV a m) (ints (grp (a % m))) := by
 unfold remV
 by_cases h : a = 0
 ·rw [if_pos h]; subst h
  rw [Nat.zero_mod,grp_zero]
  exact .inr ⟨0,.inl rfl,.inr rfl⟩
 ·rw [if_neg h]; exact .inr ⟨1,.inl rfl,.inl rfl⟩
theorem lst_pure (l : List Int) : PureSl 1 (.lst 1 (ints l)) (ints l) := .inr ⟨1,.inl rfl,.inl rfl⟩
theorem ov_fold {u : AV} {a m N : Nat} (hm : m ≠ 0) (hN : N = (grp a).length) (s0 : OvS) (h0 : ovI a m N N s0) : ∀ k s,k ≤ N → ovI a m N k s → ovI a m N 0 (backF (fun s k => (true,ovT u m ((grp a).getD k 0).toNat k s)) k s)
 | 0,s,_,h => h
 | k + 1,s,hk,h => by
  simp only [backF,if_true]
  exact ov_fold hm hN s0 h0 k _ (by omega) (ovI_step hm hN k s (by omega) _ rfl h)
end Go.VI.Dump
namespace Go.VI.Dump
open Go.VI.Num
theorem PureSl_closed {z : Nat} {v : AV} {es : List AV} (p : PureSl z v es) : v.closed = true := by
 rcases p with ⟨rfl,rfl⟩ | ⟨z',rfl | rfl,hz⟩ <;> rfl
theorem ov_rv {u : AV} {m : Nat} {D : Nat → Nat} : ∀ (k : Nat) (s : OvS),0 < k → (backF (fun s k => (true,ovT u m (D k) k s)) k s).rv = .lst 1 (ints (grp (backF (fun s k => (true,ovT u m (D k) k s)) k s).R))
 | 0,s,h => by omega
 | 1,s,h => by simp only [backF,if_true]; rfl
 | k + 2,s,h => by
  rw [backF,if_pos rfl]
  exact ov_rv (k + 1) _ (by omega)
theorem ov_give {h fr : Heap} {l : List Int} {t N : Nat} {rv rv' : AV} (hl : l.length = N) (ht : t ≤ N) (hf : fr[3]? = some (1,.arr 1 (ints l))) (hr : ∀ H : Heap,give h.length rv H = some (rv',H)) :
  giveRes h.length (.tuple [.ref (h.length + 3) 1 1 0 t N,rv]) (h ++ fr) = some (.tuple [if t = N then .own 1 (ints l) else .lst 1 (ints (l.take t)),rv']) := by
 have hg : (h ++ fr)[h.length + 3]? = some (1,.arr 1 (ints l)) := by rw [get_fr]; exact hf
 have ha : asList0 (h ++ fr) (.ref (h.length + 3) 1 1 0 t N) = some (ints (l.take t)) := by
  simp [asList0,hg,hl,ht,ints,List.map_take]
 have hgv : give h.length (.ref (h.length + 3) 1 1 0 t N) (h ++ fr) = some (if t = N then .own 1 (ints l) else .lst 1 (ints (l.take t)),(h ++ fr).set (h.length + 3) (1,.dead)) := by
  by_cases c : t = N
  ·subst c
   rw [if_pos rfl]
   rw [← hl,List.take_length] at ha
   rw [← hl]
   simp only [give,ha]
   simp
  ·rw [if_neg c]
   simp only [give]
   rw [if_neg (by omega)]
   simp [frz,ha]
 simp only [giveRes,giveL,hgv,hr,Option.bind_some,Option.map_some]
theorem over_run {v u : AV} {a m : Nat} (hm0 : m ≠ 0) (hv : PureSl 1 v (ints (grp a))) (hu : PureSl 1 u (ints (grp m))) (ha : (grp a).length ≤ 15000) (hm : (grp m).length ≤ 15000) (h : Heap) (lo : Nat) :
  (run lib).fn 110 [v,u] h lo = some (.tuple [ovQ a m,remA a m],h) := by
 obtain ⟨v',f1,f1',f2,f3,f4,f5⟩ := PureSl_frz2 hv
 obtain ⟨u',g1,g1',g2,g3,g4,g5⟩ := PureSl_frz2 hu
 have uc := PureSl_closed g4
 obtain ⟨N,hN⟩ : ∃ N,N = (grp a).length := ⟨_,rfl⟩
 have i0 : ovI a m N N ⟨List.replicate N 0,0,.nilSl,(0,.dead),0⟩ := by
  refine ⟨by simp,.inl ⟨rfl,rfl⟩,rfl, ?_, ?_, ?_⟩
  ·rw [List.drop_of_length_le (by omega)]; simp [gv]
  ·rw [List.drop_of_length_le (by simp),List.drop_of_length_le (by omega)]; simp [gv]
  ·rw [List.drop_of_length_le (by simp)]; exact Dig.nil
 have hbk := back_run (H := ovH h v' u' N) (nb := h.length + 6) (lo := h.length) (id := h.length + 0) (Y := fun s k => (true,ovT u' m ((grp a).getD k 0).toNat k s)) (Iv := ovI a m N) f4 (by omega) (fun s => by simp [ovH]) (by omega)
  (fun k s hk hi _ => ovI_step hm0 hN k s (by omega) _ rfl hi)
  (fun k s hk hi => by
   have gm : (grp a).getD k 0 = (grp a)[k] := by rw [List.getD_eq_getElem?_getD,List.getElem?_eq_getElem hk]; rfl
   have hx := dig_grp a (grp a)[k] (List.getElem_mem hk)
   have hR : s.R < m := by rw [hi.2.2.2.1]; exact Nat.mod_lt _ (by omega)
   have y := ov_yield (v := v') (u := u') hm0 g4 uc hm N (by omega) h s hi.1 hi.2.1 hR hi.2.2.1 k (by omega) ((grp a).getD k 0).toNat (by rw [gm]; omega) h.length (Nat.le_refl _)
   have e : (((grp a).getD k 0).toNat : Int) = (grp a)[k] := by rw [gm]; omega
   rw [e] at y
   exact y)
  ⟨List.replicate N 0,0,.nilSl,(0,.dead),0⟩ (by rw [← hN]; exact i0)
 have hfin := ov_fold (u := u') hm0 hN _ i0 (grp a).length ⟨List.replicate N 0,0,.nilSl,(0,.dead),0⟩ (by omega) (by rw [← hN]; exact i0)
 have hrv : ∀ H : Heap,give h.length (backF (fun s k => (true,ovT u' m ((grp a).getD k 0).toNat k s)) (grp a).length ⟨List.replicate N 0,0,.nilSl,(0,.dead),0⟩).rv H = some (remA a m,H) := by
  intro H
  by_cases c : a = 0
  ·subst c
   rfl
  ·have hne : grp a ≠ [] := fun e => c (grp_nil.mp e)
   have hR := hfin.2.2.2.1
   rw [List.drop_zero,gv_grp,Int.toNat_natCast] at hR
   rw [ov_rv _ _ (List.length_pos_iff.mpr hne),hR]
   unfold remA
   rw [if_neg c]
   simp [give,frz]
 obtain ⟨s',hs'⟩ : ∃ s',s' = backF (fun s k => (true,ovT u' m ((grp a).getD k 0).toNat k s)) (grp a).length ⟨List.replicate N 0,0,.nilSl,(0,.dead),0⟩ := ⟨_,rfl⟩
 rw [← hs'] at hbk hfin hrv
 clear hs'
 obtain ⟨q,R,rv,s1,w2⟩ := s'
 obtain ⟨hq,hp,hval,hR,hQ,hdig⟩ := hfin
 simp only [List.drop_zero,gv_grp,Int.toNat_natCast] at hq hp hval hR hQ hdig hrv
 have htr : trimL q = grp (a / m) := by rw [trimL_eq hdig,hQ,Int.toNat_natCast]
 have htl : (trimL q).length ≤ N := by simp [trimL]; omega
 have htk : q.take (grp (a / m)).length = grp (a / m) := by
  rw [← htr]; unfold trimL
  rw [List.length_take,Nat.min_eq_left (trimK_le _ _)]
 have bw := backward_run v v' f1 f1' f2 f5
 have s1' := lenv_sl (hv.sl []).len
 simp only [ints_len,← hN] at s1'
 have rep : ints (List.replicate N 0) = List.replicate N (AV.int .i64 0) := by simp [ints]
 have g3' := w_rfn (L := lib) (lo := h.length) (ns := 6) (s := 0) (g := 7) (it := 175) (v := 0) (caps := [.cptr [v']]) (env := ovE h v' u') (h := h) (b := .dead) (fr := [(0,.dead),(0,.dead),(0,.dead),(1,.arr 1 (ints (List.replicate N 0))),(1,.box [.ref (h.length + 3) 1 1 0 N N]),(1,.box [.nilSl])])
  (fr' := [(1,.rcd ⟨7,h.length,h.length,6,ovE h v' u'⟩ .ready),s1,(w2,.dead),(1,.arr 1 (ints q)),(1,.box [.ref (h.length + 3) 1 1 0 N N]),(1,.box [rv])]) (f := .t 14) rfl (by omega) rfl hbk rfl
 simp only [ovE,List.set_cons_zero,rep] at g3'
 have hmk := fun hh => mks_ok (h := hh) (cx := ⟨h.length,h.length,6,none⟩) (s := 3) (z := 1) (zero := .int .i64 0) (lim := 17592186044416) (k := .i64) (k' := .i64) (a := (N : Int)) (b := (N : Int)) (by omega) (by omega) (by omega)
 have tr := fun H hid lo => trimR_run (l := q) (by omega) H (h.length + 3) hid N hq lo
 have tr1 := tr (h ++ [(1,.dead),s1,(w2,.dead),(1,.arr 1 (ints q)),(1,.box [.ref (h.length + 3) 1 1 0 N N]),(1,.box [rv])]) (by rw [get_fr]; rfl)
 have og := ov_give (h := h) (fr := [(1,.dead),s1,(w2,.dead),(1,.arr 1 (ints q)),(1,.box [.ref (h.length + 3) 1 1 0 (trimL q).length N]),(1,.box [rv])]) (l := q) hq htl rfl hrv
 have hrc : rv.cells = [rv] := by rcases hp with ⟨rfl,_⟩ | ⟨z',rfl | rfl,hz⟩ <;> rfl
 have hQv : (if (trimL q).length = N then AV.own 1 (ints q) else .lst 1 (ints (q.take (trimL q).length))) = ovQ a m := by
  unfold ovQ
  rw [htr,← hN]
  by_cases c : (grp (a / m)).length = N
  ·rw [if_pos c,if_pos c]
   rw [c,← hq,List.take_length] at htk
   rw [htk]
  ·rw [if_neg c,if_neg c,htk]
 rw [hQv] at og
 have n1 : ¬ h.length = h.length + 4 := by omega
 have n2 : ¬ h.length + 4 = h.length + 5 := by omega
 have n3 : ¬ h.length + 5 = h.length + 4 := by omega
 rw [run_closed (x := x110) rfl rfl rfl rfl]
 simp (maxSteps := 1000000) (disch := omega) only [go_sem,x110,f1,f2,f5,g1,g2,g5,s1',hmk,mkr,bw,g3',tr1,hrc,hval,n1,n2,n3,og]
end Go.VI.Dump
namespace Go.VI
theorem beq_dec {α : Type} [BEq α] [LawfulBEq α] [DecidableEq α] (a b : α) : (a == b) = decide (a = b) := by rw [Bool.eq_iff_iff]; simp
@[go_sem] theorem bin_seql (a b : List UInt8) : binv .eql (.str a) (.str b) = some (.bool (decide (a = b))) := by simp only [binv,beq_dec]
@[go_sem] theorem bin_sneq (a b : List UInt8) : binv .neq (.str a) (.str b) = some (.bool (decide (a ≠ b))) := by simp only [binv,beq_dec]; simp
theorem bin_sadd {a b : List UInt8} (h : a.length + b.length ≤ 1000000000000) : binv .add (.str a) (.str b) = some (.str (a ++ b)) := by simp [binv,h]
theorem run_orc {L : Lib} {f : Nat} {args : List AV} {h : Heap} {lo : Nat} {r : AV} (ho : L.orc f args h = some r) : (run L).fn f args h lo = some (r,h) := by rw [run_eq,ho]
theorem ixst0 {k : IntKind} (c : UInt8) (r : List UInt8) (h : Heap) : ixst (.int k 0) h (.str (c :: r)) = some (.int .u8 c.toNat,h) := by simp [ixst,ixstr,idx]
theorem sstr_from {k : IntKind} {l : List UInt8} {i : Nat} (hi : i ≤ l.length) : slicev none (.str l) (some (.int k i)) none = some (.str (l.drop i)) := by
 simp [slicev,bnd]; omega
theorem sstr_to {k : IntKind} {l : List UInt8} {i : Nat} (hi : i ≤ l.length) : slicev none (.str l) none (some (.int k i)) = some (.str (l.take i)) := by
 simp [slicev,bnd,hi]
end Go.VI
namespace Go.VI.Dump
open Go.VI.Num
theorem tp_run (s p : List UInt8) (h : Heap) (lo : Nat) : (run lib).fn 163 [.str s,.str p] h lo = some (.str (Lib.trimPrefix s p),h) := run_orc rfl
theorem trimo_run {s c : List UInt8} (hs : s.length ≤ 1000) (hc : c.length ≤ 1000) (ha : c.all (fun b => decide (b.toNat < 128)) = true) (h : Heap) (lo : Nat) : (run lib).fn 164 [.str s,.str c] h lo = some (.str (Lib.trimS s c),h) := by
 refine run_orc ?_
 show orcV .trim [.str s,.str c] h = some _
 simp only [orcV]
 rw [if_pos ⟨by unfold strLim; omega,by unfold strLim; omega,ha⟩]
theorem isvalid_run (s : List UInt8) (h : Heap) (lo : Nat) : (run lib).fn 134 [.str s] h lo = some (.bool (validS s),h) := by
 have tp := fun H lo => tp_run s [45] H lo
 have hb : body s = Lib.trimPrefix s [45] := rfl
 rw [← hb] at tp
 rw [run_closed (x := x134) rfl rfl rfl rfl]
 unfold validS
 generalize body s = d at *
 by_cases c1 : d = []
 ·subst c1
  simp (maxSteps := 1000000) (disch := omega) only [go_sem,x134,tp,List.isEmpty_nil]
 ·have c1' : d.isEmpty = false := by cases d with | nil => exact absurd rfl c1 | cons => rfl
  by_cases c2 : d.length ≤ 200
  ·have c2' : ¬ (200 : Int) < d.length := by omega
   have tr := trimo_run (s := d) (c := [48,49,50,51,52,53,54,55,56,57]) (by omega) (by decide) (by decide)
   have hds : ds = [48,49,50,51,52,53,54,55,56,57] := rfl
   rw [← hds] at tr
   rw [c1',decide_eq_true c2]
   by_cases c3 : Lib.trimS d ds = []
   ·rw [c3] at tr ⊢
    have hs : (s == [48]) = decide (s = [48]) := beq_dec s [48]
    rw [hs]
    by_cases c4 : s = [48]
    ·subst c4
     simp (maxSteps := 1000000) (disch := omega) only [go_sem,x134,tp,c1,c2',← hds,tr,List.isEmpty_nil]
    ·obtain ⟨c,r,rfl⟩ := List.exists_cons_of_ne_nil c1
     have hx := fun H => ixst0 (k := .i64) c r H
     have e : ((c :: r).head? == some 48) = decide (c = 48) := by rw [beq_dec]; simp
     have e2 : decide (((c.toNat : Nat) : Int) = 48) = decide (c = 48) := by
      rw [decide_eq_decide,← UInt8.toNat_inj]
      have : (48 : UInt8).toNat = 48 := rfl
      omega
     rw [e]
     have e3 : decide (((c.toNat : Nat) : Int) ≠ 48) = !decide (c = 48) := by rw [← e2]; simp
     have c2'' : ¬ (200 : Int) < (r.length : Int) + 1 := by simp at c2; omega
     simp (maxSteps := 1000000) (disch := omega) only [go_sem,x134,tp,c1,cast1,c2'',← hds,tr,c4,List.isEmpty_nil,hx]
     simp [e2]
   ·have c3' : (Lib.trimS d ds).isEmpty = false := by cases hh : Lib.trimS d ds with | nil => exact absurd hh c3 | cons => rfl
    rw [c3']
    simp (maxSteps := 1000000) (disch := omega) only [go_sem,x134,tp,c1,c2',← hds,tr,c3]
  ·have c2' : (200 : Int) < d.length := by omega
   rw [decide_eq_false c2]
   simp (maxSteps := 1000000) (disch := omega) only [go_sem,x134,tp,c1,c2']
end Go.VI.Dump
namespace Go.VI.Dump
open Go.VI.Num
theorem atoi_run {s : List UInt8} (hd : Digs s) (hn : s ≠ []) (hl : s.length ≤ 18) (h : Heap) (lo : Nat) : (run lib).fn 174 [.str s] h lo = some (.tuple [.int .i64 (dv 0 s : Nat),.nilIf],h) := by
 refine run_orc ?_
 have e := atoi_digits hd hn hl
 show orcV (.atoi _) [.str s] h = some _
 simp only [orcV]
 rw [if_pos (by unfold strLim; omega),e]
def psF (h : Heap) (neg : Bool) (acc : List Int) (B : Nat × Blk) : Heap := [accB (0,.dead) 1 (ints acc),(1,.box [.bool neg,accV (h.length + 0) (0,.dead) 1 (ints acc)]),B]
theorem parse_loop (neg : Bool) (B : Nat × Blk) (h : Heap) : ∀ (f : Nat) (l : List UInt8) (acc : List Int),l.length ≤ f → Digs l → acc.length + l.length ≤ 1000 →
  runC lib ⟨h.length,h.length,3,none⟩ (.loop b144_0) ([(2,.bptr (h.length + 2) 1 0),(3,.str l),(4,.bptr (h.length + 1) 1 0)],h ++ psF h neg acc B) =
   some (.exit 0,([(2,.bptr (h.length + 2) 1 0),(4,.bptr (h.length + 1) 1 0)],h ++ psF h neg (acc ++ parseG f l) B)) := by
 intro f
 induction f with
 | zero =>
  intro l acc hl hd ha
  have : l = [] := List.length_eq_zero_iff.mp (by omega)
  subst this
  rw [w_loop]
  simp only [parseG,List.append_nil]
  simp (maxSteps := 1000000) (disch := omega) only [go_sem,psF,Int.lt_irrefl]
 | succ f ih =>
  intro l acc hl hd ha
  by_cases h0 : l = []
  ·subst h0
   rw [w_loop]
   simp only [parseG,if_true,List.append_nil]
   simp (maxSteps := 1000000) (disch := omega) only [go_sem,psF,Int.lt_irrefl]
  ·have hlen : 0 < l.length := List.length_pos_iff.mpr h0
   have hd1 : Digs (l.take (l.length - 4)) := fun x hx => hd x (List.mem_of_mem_take hx)
   have hd2 : Digs (l.drop (l.length - 4)) := fun x hx => hd x (List.mem_of_mem_drop hx)
   have c1 : (0 : Int) < l.length := by omega
   have em : max (0 : Int) ((l.length : Int) - 4) = ((l.length - 4 : Nat) : Int) := by omega
   have s1 := sstr_from (k := .i64) (show l.length - 4 ≤ l.length by omega)
   have s2 := sstr_to (k := .i64) (show l.length - 4 ≤ l.length by omega)
   have at1 := atoi_run hd2 (by intro e; have := congrArg List.length e; simp at this; omega) (by simp; omega)
   have k := ih (l.take (l.length - 4)) (acc ++ [(dv 0 (l.drop (l.length - 4)) : Int)]) (by simp; omega) hd1 (by simp; omega)
   have e : acc ++ parseG (f + 1) l = (acc ++ [(dv 0 (l.drop (l.length - 4)) : Int)]) ++ parseG f (l.take (l.length - 4)) := by simp [parseG,h0]
   rw [e]
   have ea := fun x : Int => app_acc (lo := h.length) (ns := 3) (s := 0) (z := 1) (lim := 17592186044416) (h := h) (fr := psF h neg acc B) (b0 := (0,.dead)) (es := ints acc) (xs := [.int .i64 x]) (by omega) (Nat.le_refl _) rfl (by simp; omega)
   simp only [← ints_one,← ints_app,psF,List.set_cons_zero] at ea
   generalize l.drop (l.length - 4) = y at *
   generalize dv 0 y = x at *
   have hi : [AV.int .i64 (x : Int)] = ints [(x : Int)] := rfl
   simp only [psF] at k
   rw [w_loop]
   simp (maxSteps := 1000000) (disch := omega) only [go_sem,psF,c1,em,s1,s2,at1,hi,ints_len,ea,splice_ok,k]
def aggV (z : Int) : AV := .agg [.bool (decide (z < 0)),.lst 1 (ints (grp z.natAbs))]
theorem parse_run {z : Int} (hz : z.natAbs < 10 ^ 200) (h : Heap) (lo : Nat) : (run lib).fn 144 [.str (itxt z)] h lo = some (aggV z,h) := by
 have tp := fun H lo => tp_run (itxt z) [45] H lo
 have hb : Lib.trimPrefix (itxt z) [45] = dec z.natAbs := body_itxt z
 rw [hb] at tp
 have hneg : decide (((dec z.natAbs).length : Int) < (itxt z).length) = decide (z < 0) := by
  rw [decide_eq_decide]
  unfold itxt
  by_cases c : z < 0
  ·rw [if_pos c]; simp; omega
  ·rw [if_neg c]; simp; omega
 have hl := (dec_len (n := z.natAbs) (k := 200) (by omega)).mpr hz
 obtain ⟨k1,k2⟩ := parseG_ok _ (dec z.natAbs) (Nat.le_refl _) (digs_dec _)
 rw [dv_dec] at k1
 have htr := trimL_eq k2
 rw [k1,Int.toNat_natCast] at htr
 have hne : parseG (dec z.natAbs).length (dec z.natAbs) ≠ [] := by
  have := dec_ne z.natAbs
  obtain ⟨c,r,e⟩ := List.exists_cons_of_ne_nil this
  rw [e]
  simp [parseG]
 have pl := fun B => parse_loop (decide (z < 0)) B h _ (dec z.natAbs) [] (Nat.le_refl _) (digs_dec _) (by simp; omega)
 have hpl : (parseG (dec z.natAbs).length (dec z.natAbs)).length ≤ 1000 := by
  have : ∀ f l,(parseG f l).length ≤ f := by
   intro f
   induction f with
   | zero => intro l; exact Nat.le_refl _
   | succ f ih =>
    intro l
    simp only [parseG]
    split
    ·simp
    ·have := ih (l.take (l.length - 4)); simp; omega
  have := this (dec z.natAbs).length (dec z.natAbs)
  omega
 simp only [List.nil_append] at pl
 generalize dec z.natAbs = d at *
 generalize parseG d.length d = P at *
 have hPne : ints P ≠ [] := by intro e; exact hne (by simpa [ints] using e)
 simp only [psF,accV_ne hPne,accB_ne hPne,ints_len] at pl
 have i0 : accV (h.length + 0) (0,.dead) 1 (ints []) = .nilSl := rfl
 have j0 : accB (0,.dead) 1 (ints []) = (0,.dead) := rfl
 rw [i0,j0] at pl
 have tr := fun H hid lo => trimR_run (l := P) (by omega) H (h.length + 0) hid P.length rfl lo
 have tr1 := fun b2 b3 => tr (h ++ [(0 + 1,.arr 1 (ints P)),b2,b3]) (by rw [get_fr]; rfl)
 have htl : (trimL P).length ≤ P.length := by simp [trimL]; omega
 have htk : P.take (trimL P).length = grp z.natAbs := by
  rw [← htr]; unfold trimL
  rw [List.length_take,Nat.min_eq_left (trimK_le _ _)]
 have hfz : ∀ b2 b3,frz h.length true (.ref (h.length + 0) 1 1 0 (trimL P).length P.length) (h ++ [(0 + 1,.arr 1 (ints P)),b2,b3]) = some (.lst 1 (ints (grp z.natAbs)),h ++ [(1,.dead),b2,b3]) := fun b2 b3 => by
  have hg : (h ++ [(0 + 1,Blk.arr 1 (ints P)),b2,b3])[h.length + 0]? = some (1,.arr 1 (ints P)) := by rw [get_fr]; rfl
  have ha : asList0 (h ++ [(0 + 1,Blk.arr 1 (ints P)),b2,b3]) (.ref (h.length + 0) 1 1 0 (trimL P).length P.length) = some (ints (grp z.natAbs)) := by
   simp only [asList0,hg]
   rw [if_pos (by simp [htl]),← htk]
   simp [ints,List.map_take]
  simp only [frz]
  rw [if_pos (by omega),ha,set_fr]
  rfl
 rw [run_closed (x := x144) rfl rfl rfl rfl]
 unfold aggV
 simp (maxSteps := 1000000) (disch := omega) only [go_sem,x144,tp,hneg,splice_ok,pl,tr1,hfz]
theorem both_run {x y : Int} (hx : x.natAbs < 10 ^ 200) (hy : y.natAbs < 10 ^ 200) (h : Heap) (lo : Nat) : (run lib).fn 109 [.str (itxt x),.str (itxt y)] h lo = some (.tuple [aggV x,aggV y,.bool true],h) := by
 have v1 := fun H lo => isvalid_run (itxt x) H lo
 have v2 := fun H lo => isvalid_run (itxt y) H lo
 have p1 := fun H lo => parse_run hx H lo
 have p2 := fun H lo => parse_run hy H lo
 rw [validS_itxt hx] at v1
 rw [validS_itxt hy] at v2
 simp only [aggV] at p1 p2 ⊢
 rw [run_closed (x := x109) rfl rfl rfl rfl]
 simp (maxSteps := 1000000) (disch := omega) only [go_sem,x109,v1,v2,p1,p2,splice_ok]
end Go.VI.Dump
namespace Go.VI
def bldBuf (h : Heap) (W : List UInt8) (w : Nat) : Nat × Blk := if W = [] then (0,.dead) else (w,.rcd (Rcd.at (h.length + 1) (.buf W)) (.spc (.buf W)))
def bldBld (h : Heap) (W : List UInt8) (w : Nat) : Nat × Blk := (1,.rcd (Rcd.at (h.length + 2) (.bld (h.length + 2) 1 (if W = [] then none else some (h.length + 1,w)))) (.spc (.bld (h.length + 2) 1 (if W = [] then none else some (h.length + 1,w)))))
theorem bwr_step {h : Heap} {p : Nat × Nat} {R : Nat × Blk} {W l : List UInt8} {w : Nat} (hl : l ≠ []) (hb : W.length + l.length ≤ bldLim) (hw : W = [] → w = 0) :
  bwrv ⟨h.length,h.length,3,some p⟩ 1 (.yld (h.length + 2) 1) (.str l) (h ++ [R,bldBuf h W w,bldBld h W w]) = some (.tuple [.int .i64 l.length,.nilIf],h ++ [R,bldBuf h (W ++ l) (w + 1),bldBld h (W ++ l) (w + 1)]) := by
 have hne : W ++ l ≠ [] := by simp [hl]
 by_cases h0 : W = []
 ·have := hw h0
  subst h0
  subst this
  have hg : (h ++ [R,(0,Blk.dead),bldBld h [] 0])[h.length + 2]? = some (bldBld h [] 0) := by rw [get_fr]; rfl
  have hm := mkAt_r (lo := h.length) (ns := 3) (s := 1) (p := p) (b := .rcd (Rcd.at (h.length + 1) (.buf l)) (.spc (.buf l))) (h := h) (fr := [R,(0,Blk.dead),bldBld h [] 0]) rfl
  simp only [List.getElem?_cons_succ,List.getElem?_cons_zero,mkF_some,List.set_cons_succ,List.set_cons_zero,List.length_nil,Nat.zero_add] at hm hb
  rw [if_pos (by omega)] at hm
  simp only [bldBuf,if_true,hg,List.nil_append,if_neg hl]
  simp only [bldBld,if_true] at hg hm ⊢
  simp [bwrv,hg,hl,hb,hm,set_fr]
  rfl
 ·have hg : (h ++ [R,bldBuf h W w,bldBld h W w])[h.length + 2]? = some (bldBld h W w) := by rw [get_fr]; rfl
  have hg1 : (h ++ [R,bldBuf h W w,bldBld h W w])[h.length + 1]? = some (bldBuf h W w) := by rw [get_fr]; rfl
  simp only [bldBuf,bldBld,if_neg h0,if_neg hne] at hg hg1 ⊢
  simp [bwrv,hg,hg1,h0,hb,set_fr,Rcd.at]
  rfl
theorem bstr_end {h : Heap} {R : Nat × Blk} {W : List UInt8} {w : Nat} (hl : W ≠ []) :
  bstrv ⟨h.length,h.length,3,none⟩ (.yld (h.length + 2) 1) (h ++ [R,bldBuf h W w,bldBld h W w]) = some (.str W) := by
 have hg : (h ++ [R,bldBuf h W w,bldBld h W w])[h.length + 2]? = some (bldBld h W w) := by rw [get_fr]; rfl
 have hg1 : (h ++ [R,bldBuf h W w,bldBld h W w])[h.length + 1]? = some (bldBuf h W w) := by rw [get_fr]; rfl
 simp only [bldBuf,bldBld,if_neg hl] at hg hg1 ⊢
 simp [bstrv,hg,hg1,hl]
end Go.VI
namespace Go.VI.Dump
open Go.VI.Num
theorem itoa_run {n : Int} (h0 : -9223372036854775808 ≤ n) (h1 : n ≤ 9223372036854775807) (h : Heap) (lo : Nat) : (run lib).fn 104 [.int .i64 n] h lo = some (.str (itxt n),h) := by
 refine run_orc ?_
 show orcV .itoa [.int .i64 n] h = some _
 simp only [orcV]
 rw [if_pos ⟨h0,h1⟩]
 have e : itoaL n = itxt n := by
  unfold itoaL itxt
  have e20 : (10 : Nat) ^ 20 = 100000000000000000000 := by decide
  by_cases c : n < 0
  ·rw [if_pos c,if_pos c,dec_eq (by rw [e20]; omega) (by omega)]
  ·have : n.toNat = n.natAbs := by omega
   rw [if_neg c,if_neg c,dec_eq (by rw [e20]; omega) (by omega),this]
 rw [e]
theorem repeatL_one (c : UInt8) : ∀ n,Lib.repeatL [c] n = List.replicate n c
 | 0 => rfl
 | n + 1 => by rw [Lib.repeatL,repeatL_one c n]; rfl
theorem repeat_run {n : Nat} (hn : n ≤ 1000) (c : UInt8) (h : Heap) (lo : Nat) : (run lib).fn 123 [.str [c],.int .i64 n] h lo = some (.str (List.replicate n c),h) := by
 refine run_orc ?_
 show orcV .repeat_ [.str [c],.int .i64 n] h = some _
 simp only [orcV]
 rw [if_pos ⟨by omega,by simp [bldLim]; omega,by omega,by simp⟩,Int.toNat_natCast,repeatL_one]
theorem itxt_nat (d : Nat) : itxt (d : Int) = dec d := by
 unfold itxt
 rw [if_neg (by omega),Int.natAbs_natCast]
def tpc (l : List Int) (k : Nat) : List UInt8 := if k + 1 < l.length then pad4 (l.getD k 0).toNat else dec (l.getD k 0).toNat
def txE (h : Heap) (v : AV) (neg : Bool) : Env := [(1,.cptr [.bool neg,v]),(2,.str []),(3,.int .i64 0),(4,.yld (h.length + 2) 1),(15,.fn 175 [.cptr [v]])]
def txH (h : Heap) (v : AV) (neg : Bool) (s : List UInt8 × Nat) : Heap := h ++ [(1,.rcd ⟨8,h.length,h.length,3,txE h v neg⟩ .ready),bldBuf h s.1 s.2,bldBld h s.1 s.2]
theorem dec4 {d : Nat} (h : d ≤ 9999) : (dec d).length ≤ 4 := (dec_len (by omega)).mpr (by have : (10:Nat)^4 = 10000 := (by decide); omega)
theorem tx_yield {v : AV} {l : List Int} {neg : Bool} (hv : PureSl 1 v (ints l)) (hl : l.length ≤ 10000) (h : Heap) (k : Nat) (hk : k < l.length) (d : Nat) (hd : d ≤ 9999) (hg : (l.getD k 0).toNat = d) (s : List UInt8 × Nat) (hs : s.1.length ≤ 100000) (hw : s.1 = [] → s.2 = 0) (lo : Nat) (hlo : lo ≤ h.length) :
  yieldv (run lib) ⟨lo,h.length + 3,0,none⟩ (h.length + 0) 1 [.int .i64 k,.int .i64 d] (txH h v neg s) = some (.bool true,txH h v neg (s.1 ++ tpc l k,s.2 + 1)) := by
 obtain ⟨W,w⟩ := s
 obtain ⟨D,hD⟩ : ∃ D : Rcd,D = ⟨8,h.length,h.length,3,txE h v neg⟩ := ⟨_,rfl⟩
 simp only [] at hs hw
 simp only [txH,← hD,tpc,hg]
 have s1 := lenv_sl (hv.sl []).len
 rw [ints_len] at s1
 have ha' : runC lib ⟨h.length,h.length,3,some (h.length + 0,1)⟩ r8.asg ((r8.ps.zip [.int .i64 k,.int .i64 d]).foldl (fun e p => e.set p.1 p.2) (txE h v neg),h ++ [(1,.rcd D .ready),bldBuf h W w,bldBld h W w]) =
   some (.norm,([(1,.cptr [.bool neg,v]),(4,.yld (h.length + 2) 1),(5,.int .i64 k),(6,.int .i64 d)],h ++ [(1,.rcd D .ready),bldBuf h W w,bldBld h W w])) := by
  simp (maxSteps := 1000000) (disch := omega) only [go_sem,r8,txE,List.zip_cons_cons,List.zip_nil_right,List.foldl_cons,List.foldl_nil]
 have hg0 : (h ++ [(1,Blk.rcd D .ready),bldBuf h W w,bldBld h W w])[h.length + 0]? = some (1,.rcd ⟨8,h.length,h.length,3,txE h v neg⟩ .ready) := by rw [get_fr,← hD]; rfl
 have it := fun H lo => itoa_run (n := (d : Int)) (by omega) (by omega) H lo
 rw [itxt_nat] at it
 have hd4 := dec4 hd
 have hb : runC lib ⟨h.length,h.length,3,some (h.length + 0,1)⟩ r8.body ([(1,.cptr [.bool neg,v]),(4,.yld (h.length + 2) 1),(5,.int .i64 k),(6,.int .i64 d)],(h ++ [(1,.rcd D .ready),bldBuf h W w,bldBld h W w]).set (h.length + 0) (1,.rcd D .busy)) =
   some (.norm,([],h ++ [(1,.rcd D .busy),bldBuf h (W ++ if k + 1 < l.length then pad4 d else dec d) (w + 1),bldBld h (W ++ if k + 1 < l.length then pad4 d else dec d) (w + 1)])) := by
  rw [set_fr]
  by_cases c : k + 1 < l.length
  ·rw [if_pos c]
   have c1 : (k : Int) < (l.length : Int) - 1 := by omega
   have rp := fun H lo => repeat_run (n := 4 - (dec d).length) (by omega) 48 H lo
   have e4 : (4 : Int) - ((dec d).length : Int) = ((4 - (dec d).length : Nat) : Int) := by omega
   have ad : binv .add (.str (List.replicate (4 - (dec d).length) 48)) (.str (dec d)) = some (.str (pad4 d)) := by
    rw [bin_sadd (by simp; omega),pad_dec (by omega)]
   have bs := bwr_step (h := h) (p := (h.length + 0,1)) (R := (1,.rcd D .busy)) (W := W) (l := pad4 d) (w := w) (by simp [pad4]) (by simp [pad4,bldLim]; omega) hw
   simp (maxSteps := 1000000) (disch := omega) only [go_sem,r8,it,s1,c1,e4,rp,ad,bs]
  ·rw [if_neg c]
   have c1 : ¬ (k : Int) < (l.length : Int) - 1 := by omega
   have bs := bwr_step (h := h) (p := (h.length + 0,1)) (R := (1,.rcd D .busy)) (W := W) (l := dec d) (w := w) (dec_ne d) (by simp [bldLim]; omega) hw
   simp (maxSteps := 1000000) (disch := omega) only [go_sem,r8,it,s1,c1,bs]
 have := yield_round (L := lib) (cx := ⟨lo,h.length + 3,0,none⟩) hg0 hlo (by omega) (by omega) (by simp [AV.closedL,AV.closed]) (x := r8) rfl rfl ha' (by rw [get_fr]; rfl) hb (by rw [get_fr]; rfl)
 rw [this,set_fr]
 rfl
def txI (l : List Int) (k : Nat) (s : List UInt8 × Nat) : Prop := s.1 = txtG (l.drop k) ∧ s.1.length ≤ 4 * (l.length - k) ∧ (s.1 = [] → s.2 = 0)
theorem txI_step {l : List Int} (hd : Dig l) (k : Nat) (s : List UInt8 × Nat) (hk : k < l.length) (hi : txI l (k + 1) s) : txI l k (s.1 ++ tpc l k,s.2 + 1) := by
 obtain ⟨h1,h2,h3⟩ := hi
 have gm : l.getD k 0 = l[k] := by rw [List.getD_eq_getElem?_getD,List.getElem?_eq_getElem hk]; rfl
 have hx := hd l[k] (List.getElem_mem hk)
 have hlen : (tpc l k).length ≤ 4 := by
  unfold tpc
  split
  ·simp [pad4]
  ·exact dec4 (by rw [gm]; omega)
 have hne : tpc l k ≠ [] := by
  unfold tpc
  split
  ·simp [pad4]
  ·exact dec_ne _
 refine ⟨?_,by simp; omega,fun h => by simp at h; exact absurd h.2 hne⟩
 simp only []
 rw [List.drop_eq_getElem_cons hk,txtG,h1]
 unfold tpc
 rw [gm]
 by_cases c : k + 1 < l.length
 ·rw [if_pos c,if_neg (by intro e; have := congrArg List.length e; simp at this; omega)]
 ·rw [if_neg c,List.drop_of_length_le (by omega),if_pos rfl]; rfl
def outT (z : Int) : AV := if z.natAbs < 10 ^ 200 then .tuple [.str (itxt z),.int .i64 0] else .tuple [.str [],.int .i64 30]
def sgn (neg : Bool) (n : Nat) : Int := if neg then -(n : Int) else n
theorem sgn_abs (neg : Bool) (n : Nat) : (sgn neg n).natAbs = n := by unfold sgn; split <;> omega
theorem text_run {v : AV} {n : Nat} (neg : Bool) (hv : PureSl 1 v (ints (grp n))) (hn : (grp n).length ≤ 10000) (h : Heap) (lo : Nat) :
  (run lib).fn 114 [.agg [.bool neg,v]] h lo = some (outT (sgn neg n),h) := by
 obtain ⟨v',f1,f1',f2,f3,f4,f5⟩ := PureSl_frz2 hv
 have s1 := lenv_sl (f4.sl []).len
 rw [ints_len] at s1
 by_cases h0 : n = 0
 ·subst h0
  have e : outT (sgn neg 0) = .tuple [.str [48],.int .i64 0] := by cases neg <;> rfl
  rw [grp_zero] at s1
  simp only [List.length_nil,Int.natCast_zero] at s1
  rw [e,run_closed (x := x114) rfl rfl rfl rfl]
  simp (maxSteps := 1000000) (disch := omega) only [go_sem,x114,f1,f2,f5,s1,Int.natCast_zero]
 ·have hne : grp n ≠ [] := fun e => h0 (grp_nil.mp e)
  have hpos := List.length_pos_iff.mpr hne
  have c0 : ¬ ((grp n).length : Int) = 0 := by omega
  have i0 : txI (grp n) (grp n).length ([],0) := ⟨by rw [List.drop_of_length_le (Nat.le_refl _)]; rfl,by simp,fun _ => rfl⟩
  have dg := dig_grp n
  have hbk := back_run (H := txH h v' neg) (nb := h.length + 3) (lo := h.length) (id := h.length + 0) (Y := fun s k => (true,(s.1 ++ tpc (grp n) k,s.2 + 1))) (Iv := txI (grp n)) f4 (by omega) (fun s => by simp [txH]) (by omega)
   (fun k s hk hi _ => txI_step dg k s hk hi)
   (fun k s hk hi => by
    have gm : (grp n).getD k 0 = (grp n)[k] := by rw [List.getD_eq_getElem?_getD,List.getElem?_eq_getElem hk]; rfl
    have hx := dg (grp n)[k] (List.getElem_mem hk)
    have y := tx_yield (v := v') (l := grp n) (neg := neg) f4 hn h k hk ((grp n).getD k 0).toNat (by rw [gm]; omega) rfl s (by have := hi.2.1; omega) hi.2.2 h.length (Nat.le_refl _)
    have e : (((grp n).getD k 0).toNat : Int) = (grp n)[k] := by rw [gm]; omega
    rw [e] at y
    exact y) ([],0) i0
  have hfin := back_inv (Y := fun s k => (true,(s.1 ++ tpc (grp n) k,s.2 + 1))) (Iv := txI (grp n)) (fun s k => rfl) (fun k s hk hi => txI_step dg k s hk hi) (grp n).length ([],0) (Nat.le_refl _) i0
  obtain ⟨s',hs'⟩ : ∃ s',s' = backF (fun (s : List UInt8 × Nat) k => (true,(s.1 ++ tpc (grp n) k,s.2 + 1))) (grp n).length ([],0) := ⟨_,rfl⟩
  rw [← hs'] at hbk hfin
  clear hs'
  obtain ⟨W,w⟩ := s'
  have hW : W = dec n := by have := hfin.1; rw [List.drop_zero,txt_grp h0] at this; exact this
  subst hW
  have bw := backward_run v' v' f1' f1' f3 f5
  have b0 : bldBuf h [] 0 = (0,.dead) := rfl
  have b1 : bldBld h [] 0 = (1,.rcd (Rcd.at (h.length + 2) (.bld (h.length + 2) 1 none)) (.spc (.bld (h.length + 2) 1 none))) := rfl
  simp only [txH,b0,b1] at hbk
  have g3' := w_rfn (L := lib) (lo := h.length) (ns := 3) (s := 0) (g := 8) (it := 175) (v := 0) (caps := [.cptr [v']]) (env := txE h v' neg) (h := h) (b := .dead) (fr := [(0,.dead),(0,.dead),(1,.rcd (Rcd.at (h.length + 2) (.bld (h.length + 2) 1 none)) (.spc (.bld (h.length + 2) 1 none)))])
   (fr' := [(1,.rcd ⟨8,h.length,h.length,3,txE h v' neg⟩ .ready),bldBuf h (dec n) w,bldBld h (dec n) w]) (f := .t 15) rfl (by omega) rfl hbk rfl
  simp only [txE,List.set_cons_zero] at g3'
  have be := bstr_end (h := h) (R := (1,.dead)) (W := dec n) (w := w) (dec_ne n)
  have hlen := dec_len (n := n) (k := 200) (by omega)
  have hbig : (dec n).length ≤ 100000 := by
   have := hfin.2.1
   simp only [] at this
   omega
  have ad : binv .add (.str [45]) (.str (dec n)) = some (.str (45 :: dec n)) := by rw [bin_sadd (by simp; omega)]; rfl
  rw [run_closed (x := x114) rfl rfl rfl rfl]
  unfold outT
  rw [sgn_abs]
  by_cases c : n < 10 ^ 200
  ·have c1 : ¬ (200 : Int) < (dec n).length := by have := hlen.mpr c; omega
   rw [if_pos c]
   cases neg with
   | true =>
    have e : itxt (sgn true n) = 45 :: dec n := by
     unfold itxt sgn
     rw [if_pos rfl,if_pos (by omega)]
     have : (-(n : Int)).natAbs = n := by omega
     rw [this]
    rw [e]
    simp (maxSteps := 1000000) (disch := omega) only [go_sem,x114,f1,f2,f5,s1,c0,set_fr,bw,g3',be,c1,ad]
   | false =>
    have e : itxt (sgn false n) = dec n := by
     unfold sgn
     rw [if_neg (by simp),itxt_nat]
    rw [e]
    simp (maxSteps := 1000000) (disch := omega) only [go_sem,x114,f1,f2,f5,s1,c0,set_fr,bw,g3',be,c1,ad]
  ·have c1 : (200 : Int) < (dec n).length := by
    rcases Int.lt_or_le (200 : Int) (dec n).length with h | h
    ·exact h
    ·exact absurd (hlen.mp (by omega)) c
   rw [if_neg c]
   simp (maxSteps := 1000000) (disch := omega) only [go_sem,x114,f1,f2,f5,s1,c0,set_fr,bw,g3',be,c1,ad]
end Go.VI.Dump
namespace Go.VI.Dump
open Go.VI.Num
theorem sgn_self (x : Int) : sgn (decide (x < 0)) x.natAbs = x := by
 unfold sgn
 by_cases c : x < 0
 ·rw [decide_eq_true c,if_pos rfl]; omega
 ·rw [decide_eq_false c,if_neg (by simp)]; omega
def plS (a : Bool) (n : Nat) (b : Bool) (m : Nat) : Bool × Nat := if a = b then (a,n + m) else if m ≤ n then (a,n - m) else (b,m - n)
theorem plS_val (a : Bool) (n : Nat) (b : Bool) (m : Nat) : sgn (plS a n b m).1 (plS a n b m).2 = sgn a n + sgn b m := by
 unfold plS
 by_cases c : a = b
 ·subst c
  rw [if_pos rfl]
  cases a <;> simp [sgn] <;> omega
 ·rw [if_neg c]
  by_cases c2 : m ≤ n
  ·rw [if_pos c2]
   cases a <;> cases b <;> simp [sgn] at c ⊢ <;> omega
  ·rw [if_neg c2]
   cases a <;> cases b <;> simp [sgn] at c ⊢ <;> omega
theorem cmpN_ge (a b : Int) : (0 ≤ cmpN a b) ↔ b ≤ a := by
 unfold cmpN
 by_cases h1 : a < b
 ·rw [if_pos h1]; omega
 ·rw [if_neg h1]
  by_cases h2 : a = b
  ·rw [if_pos h2]; omega
  ·rw [if_neg h2]; omega
theorem splus_run {v u : AV} {n m : Nat} (a b : Bool) (hv : PureSl 1 v (ints (grp n))) (hu : PureSl 1 u (ints (grp m))) (hn : (grp n).length ≤ 50000) (hm : (grp m).length ≤ 50000) (h : Heap) (lo : Nat) :
  (run lib).fn 162 [.agg [.bool a,v],.agg [.bool b,u]] h lo = some (.agg [.bool (plS a n b m).1,.lst 1 (ints (grp (plS a n b m).2))],h) := by
 obtain ⟨v',f1,f1',f2,f3,f4,f5⟩ := PureSl_frz2 hv
 obtain ⟨u',g1,g1',g2,g3,g4,g5⟩ := PureSl_frz2 hu
 have pl := fun H lo => plus_run f4 g4 hn hm H lo
 have cm := fun H lo => cmp_run f4 g4 (by omega) (by omega) H lo
 rw [cmpL_grp] at cm
 have ge := cmpN_ge (n : Int) (m : Int)
 generalize cmpN (n : Int) (m : Int) = q at *
 have eb : (a == b) = decide (a = b) := beq_dec a b
 rw [run_closed (x := x162) rfl rfl rfl rfl]
 unfold plS
 by_cases c : a = b
 ·rw [decide_eq_true c] at eb
  rw [if_pos c]
  simp (maxSteps := 1000000) (disch := omega) only [go_sem,x162,f1,g1,eb,pl,splice_ok]
 ·rw [decide_eq_false c] at eb
  rw [if_neg c]
  by_cases c2 : m ≤ n
  ·have mi := fun H lo => minus_run f4 g4 c2 hn H lo
   have c3 : (0 : Int) ≤ q := by omega
   rw [if_pos c2]
   simp (maxSteps := 1000000) (disch := omega) only [go_sem,x162,f1,g1,eb,cm,c3,mi,splice_ok]
  ·have mi := fun H lo => minus_run g4 f4 (by omega) hm H lo
   have c3 : ¬ (0 : Int) ≤ q := by omega
   rw [if_neg c2]
   simp (maxSteps := 1000000) (disch := omega) only [go_sem,x162,f1,g1,eb,cm,c3,mi,splice_ok]
theorem one_run (h : Heap) (lo : Nat) : (run lib).fn 112 [] h lo = some (.lsf 1 [.int .i64 1],h) := by
 have hg2 : giveRes h.length (.lsf 1 [.int .i64 1]) h = some (.lsf 1 [.int .i64 1]) := rfl
 rw [run_closed (x := x112) rfl rfl rfl rfl]
 simp (maxSteps := 1000000) (disch := omega) only [go_sem,x112,hg2,Option.map_some]
def Fit (z : Int) : Prop := z.natAbs < 10 ^ 200
def outS (z : Int) : List UInt8 := if z.natAbs < 10 ^ 200 then itxt z else []
def outE (z : Int) : Int := if z.natAbs < 10 ^ 200 then 0 else 30
theorem outT_eq (z : Int) : outT z = .tuple [.str (outS z),.int .i64 (outE z)] := by
 unfold outT outS outE
 split <;> rfl
theorem outT_fit {z : Int} (h : Fit z) : outT z = .tuple [.str (itxt z),.int .i64 0] := if_pos h
theorem fit_len {z : Int} (h : Fit z) : (grp z.natAbs).length ≤ 50 := by
 refine grp_len_pow 50 _ ?_
 have e : (10000 : Nat) ^ 50 = 10 ^ 200 := by rw [show (10000 : Nat) = 10 ^ 4 from rfl,← Nat.pow_mul]
 rw [e]; exact h
theorem agg_pure (z : Int) : PureSl 1 (.lst 1 (ints (grp z.natAbs))) (ints (grp z.natAbs)) := lst_pure _
theorem plS_len {a b : Bool} {n m k : Nat} (hn : (grp n).length ≤ k) (hm : (grp m).length ≤ k) : (grp (plS a n b m).2).length ≤ k + 1 := by
 have h1 := grp_lt_pow n
 have h2 := grp_lt_pow m
 have h3 : n < 10000 ^ k := Nat.lt_of_lt_of_le h1 (Nat.pow_le_pow_right (by omega) hn)
 have h4 : m < 10000 ^ k := Nat.lt_of_lt_of_le h2 (Nat.pow_le_pow_right (by omega) hm)
 refine grp_len_pow _ _ ?_
 rw [Nat.pow_succ]
 unfold plS
 generalize 10000 ^ k = X at *
 split
 ·simp only []; omega
 ·split
  ·simp only []; omega
  ·simp only []; omega
theorem sub_run {x y : Int} (hx : Fit x) (hy : Fit y) (h : Heap) (lo : Nat) : (run lib).fn 135 [.str (itxt x),.str (itxt y)] h lo = some (outT (x - y),h) := by
 have bo := fun H lo => both_run hx hy H lo
 have lx := fit_len hx
 have ly := fit_len hy
 have sp := fun H lo => splus_run (decide (x < 0)) (!decide (y < 0)) (agg_pure x) (agg_pure y) (by omega) (by omega) H lo
 have pv := plS_val (decide (x < 0)) x.natAbs (!decide (y < 0)) y.natAbs
 have pn := plS_len (a := decide (x < 0)) (b := !decide (y < 0)) lx ly
 have hneg : sgn (!decide (y < 0)) y.natAbs = -y := by
  unfold sgn
  by_cases c : y < 0
  ·rw [decide_eq_true c,Bool.not_true,if_neg (by simp)]; omega
  ·rw [decide_eq_false c,Bool.not_false,if_pos rfl]; omega
 rw [sgn_self,hneg,← Int.sub_eq_add_neg] at pv
 generalize plS (decide (x < 0)) x.natAbs (!decide (y < 0)) y.natAbs = p at *
 have tx := fun H lo => text_run (n := p.2) p.1 (lst_pure _) (by omega) H lo
 rw [pv,outT_eq] at tx
 simp only [aggV] at bo
 rw [outT_eq,run_closed (x := x135) rfl rfl rfl rfl]
 simp (maxSteps := 1000000) (disch := omega) only [go_sem,x135,bo,sp,tx,splice_ok]
theorem sgn_mul (x y : Int) : sgn (!(decide (x < 0) == decide (y < 0))) (x.natAbs * y.natAbs) = x * y := by
 have e : ((x.natAbs * y.natAbs : Nat) : Int) = (x * y).natAbs := by rw [Int.natAbs_mul]
 unfold sgn
 rw [e]
 by_cases c1 : x < 0
 ·by_cases c2 : y < 0
  ·rw [decide_eq_true c1,decide_eq_true c2,if_neg (by simp)]
   have := Int.mul_nonneg_of_nonpos_of_nonpos (Int.le_of_lt c1) (Int.le_of_lt c2); omega
  ·rw [decide_eq_true c1,decide_eq_false c2,if_pos (by simp)]
   have := Int.mul_nonpos_of_nonpos_of_nonneg (Int.le_of_lt c1) (by omega : 0 ≤ y); omega
 ·by_cases c2 : y < 0
  ·rw [decide_eq_false c1,decide_eq_true c2,if_pos (by simp)]
   have := Int.mul_nonpos_of_nonneg_of_nonpos (by omega : 0 ≤ x) (Int.le_of_lt c2); omega
  ·rw [decide_eq_false c1,decide_eq_false c2,if_neg (by simp)]
   have := Int.mul_nonneg (by omega : 0 ≤ x) (by omega : 0 ≤ y); omega
theorem mul_run {x y : Int} (hx : Fit x) (hy : Fit y) (h : Heap) (lo : Nat) : (run lib).fn 161 [.str (itxt x),.str (itxt y)] h lo = some (outT (x * y),h) := by
 have bo := fun H lo => both_run hx hy H lo
 have lx := fit_len hx
 have ly := fit_len hy
 have ti := fun H lo => times_run (agg_pure x) (agg_pure y) (by omega) (by omega) H lo
 have hl := grp_len_mul x.natAbs y.natAbs
 obtain ⟨P,hP,hw⟩ : ∃ P,PureSl 1 P (ints (grp (x.natAbs * y.natAbs))) ∧ weak (if y.natAbs = 0 then AV.own 0 [] else .lst 1 (ints (grp (x.natAbs * y.natAbs)))) = P ∧ P.val = true ∧ P.cells = [P] := by
  by_cases c : y.natAbs = 0
  ·refine ⟨.lst 0 [], ?_,by rw [if_pos c]; rfl,rfl,rfl⟩
   rw [c,Nat.mul_zero,grp_zero]
   exact .inr ⟨0,.inl rfl,.inr rfl⟩
  ·exact ⟨.lst 1 (ints (grp (x.natAbs * y.natAbs))),lst_pure _,by rw [if_neg c]; rfl,rfl,rfl⟩
 have tx := fun H lo => text_run (n := x.natAbs * y.natAbs) (!(decide (x < 0) == decide (y < 0))) hP (by omega) H lo
 rw [sgn_mul,outT_eq] at tx
 simp only [aggV] at bo
 obtain ⟨hw1,hw2,hw3⟩ := hw
 generalize (if y.natAbs = 0 then AV.own 0 [] else .lst 1 (ints (grp (x.natAbs * y.natAbs)))) = Q at *
 rw [outT_eq,run_closed (x := x161) rfl rfl rfl rfl]
 simp (maxSteps := 1000000) (disch := omega) only [go_sem,x161,bo,ti,hw1,hw2,hw3,tx,splice_ok]
theorem valid_run (s : List UInt8) (h : Heap) (lo : Nat) : (run lib).fn 102 [.str s] h lo = some (.bool (validS s),h) := by
 have bo := fun H lo => isvalid_run s H lo
 rw [run_closed (x := x102) rfl rfl rfl rfl]
 simp (maxSteps := 1000000) (disch := omega) only [go_sem,x102,bo]
theorem compare_run {x y : Int} (hx : Fit x) (hy : Fit y) (h : Heap) (lo : Nat) : (run lib).fn 82 [.str (itxt x),.str (itxt y)] h lo = some (.int .i64 (cmpN x y),h) := by
 have bo := fun H lo => both_run hx hy H lo
 have lx := fit_len hx
 have ly := fit_len hy
 have cm := fun H lo => cmp_run (agg_pure x) (agg_pure y) (by omega) (by omega) H lo
 have cn := fun H lo => cmp_run (agg_pure y) (agg_pure x) (by omega) (by omega) H lo
 rw [cmpL_grp] at cm cn
 simp only [aggV] at bo
 rw [run_closed (x := x82) rfl rfl rfl rfl]
 by_cases c1 : x < 0
 ·rw [decide_eq_true c1] at bo
  by_cases c2 : y < 0
  ·rw [decide_eq_true c2] at bo
   have e : cmpN (y.natAbs : Int) (x.natAbs : Int) = cmpN x y := by
    unfold cmpN
    have e1 : (y.natAbs : Int) = -y := by omega
    have e2 : (x.natAbs : Int) = -x := by omega
    rw [e1,e2]
    simp only [show (-y < -x) = (x < y) by simp,show (-y = -x) = (x = y) by rw [eq_iff_iff]; omega]
   rw [e] at cn
   simp (maxSteps := 1000000) (disch := omega) only [go_sem,x82,bo,cn,splice_ok]
  ·rw [decide_eq_false c2] at bo
   have e : cmpN x y = -1 := if_pos (by omega)
   rw [e]
   simp (maxSteps := 1000000) (disch := omega) only [go_sem,x82,bo,splice_ok]
 ·rw [decide_eq_false c1] at bo
  by_cases c2 : y < 0
  ·rw [decide_eq_true c2] at bo
   have e : cmpN x y = 1 := by unfold cmpN; rw [if_neg (by omega),if_neg (by omega)]
   rw [e]
   simp (maxSteps := 1000000) (disch := omega) only [go_sem,x82,bo,splice_ok]
  ·rw [decide_eq_false c2] at bo
   have e1 : (y.natAbs : Int) = y := by omega
   have e2 : (x.natAbs : Int) = x := by omega
   rw [e1,e2] at cm
   simp (maxSteps := 1000000) (disch := omega) only [go_sem,x82,bo,cm,splice_ok]
theorem fromint_run {n : Int} (h0 : -9223372036854775808 ≤ n) (h1 : n ≤ 9223372036854775807) (h : Heap) (lo : Nat) : (run lib).fn 74 [.int .i64 n] h lo = some (.str (itxt n),h) := by
 have it := fun H lo => itoa_run h0 h1 H lo
 rw [run_closed (x := x74) rfl rfl rfl rfl]
 simp (maxSteps := 1000000) (disch := omega) only [go_sem,x74,it]
end Go.VI.Dump
namespace Go.VI.Dump
open Go.VI.Num
def dvQ (x y : Int) : Nat := if x < 0 ∧ x.natAbs % y.natAbs ≠ 0 then x.natAbs / y.natAbs + 1 else x.natAbs / y.natAbs
def dvR (x y : Int) : Nat := if x < 0 ∧ x.natAbs % y.natAbs ≠ 0 then y.natAbs - x.natAbs % y.natAbs else x.natAbs % y.natAbs
theorem dv_eq {x y : Int} (hy : y ≠ 0) : sgn (!(decide (x < 0) == decide (y < 0))) (dvQ x y) = x / y ∧ (dvR x y : Int) = x % y := by
 have hpos : 0 < y.natAbs := by omega
 have hlt := Nat.mod_lt x.natAbs hpos
 have hdm := Nat.div_add_mod x.natAbs y.natAbs
 obtain ⟨m,hm⟩ : ∃ m,m = y.natAbs := ⟨_,rfl⟩
 obtain ⟨n,hn⟩ : ∃ n,n = x.natAbs := ⟨_,rfl⟩
 have key : ∀ (Q : Int) (R : Nat),(R : Int) + (m : Int) * Q = x → R < m → x / (m : Int) = Q ∧ x % (m : Int) = R := fun Q R h1 h2 =>
  (Int.ediv_emod_unique (by omega)).mpr ⟨h1,by omega,by omega⟩
 have fin : ∀ (Q : Int) (R : Nat),(R : Int) + (m : Int) * Q = x → R < m → (if y < 0 then -Q else Q) = x / y ∧ (R : Int) = x % y := fun Q R h1 h2 => by
  obtain ⟨k1,k2⟩ := key Q R h1 h2
  by_cases c : y < 0
  ·have ey : y = -(m : Int) := by omega
   rw [if_pos c,ey,Int.ediv_neg,Int.emod_neg,k1,k2]; exact ⟨rfl,rfl⟩
  ·have ey : y = (m : Int) := by omega
   rw [if_neg c,ey,k1,k2]; exact ⟨rfl,rfl⟩
 unfold dvQ dvR sgn
 rw [← hm] at hlt hdm hpos ⊢
 rw [← hn] at hlt hdm ⊢
 have hcast : ((n / m : Nat) : Int) * (m : Int) + ((n % m : Nat) : Int) = n := by
  rw [← Int.natCast_mul,← Int.natCast_add,Nat.mul_comm,hdm]
 generalize n / m = q at *
 generalize n % m = r at *
 by_cases c1 : x < 0
 ·by_cases c3 : r = 0
  ·have := fin (-(q : Int)) 0 (by rw [Int.mul_neg,Int.mul_comm]; generalize (q : Int) * (m : Int) = Z at *; omega) hpos
   have eQ : (if x < 0 ∧ r ≠ 0 then q + 1 else q) = q := if_neg (by omega)
   have eR : (if x < 0 ∧ r ≠ 0 then m - r else r) = 0 := by rw [if_neg (by omega),c3]
   rw [eQ,eR]
   by_cases c2 : y < 0
   ·rw [if_pos c2] at this
    rw [decide_eq_true c1,decide_eq_true c2,if_neg (by simp)]
    rw [Int.neg_neg] at this; exact this
   ·rw [if_neg c2] at this
    rw [decide_eq_true c1,decide_eq_false c2,if_pos (by simp)]; exact this
  ·have := fin (-((q : Int) + 1)) (m - r) (by rw [Int.mul_neg,Int.mul_add,Int.mul_comm (m : Int) q]; generalize (q : Int) * (m : Int) = Z at *; omega) (by omega)
   have eQ : (if x < 0 ∧ r ≠ 0 then q + 1 else q) = q + 1 := if_pos ⟨c1,c3⟩
   have eR : (if x < 0 ∧ r ≠ 0 then m - r else r) = m - r := if_pos ⟨c1,c3⟩
   rw [eQ,eR]
   have e : ((q + 1 : Nat) : Int) = (q : Int) + 1 := by omega
   rw [e]
   by_cases c2 : y < 0
   ·rw [if_pos c2] at this
    rw [decide_eq_true c1,decide_eq_true c2,if_neg (by simp)]
    rw [Int.neg_neg] at this; exact this
   ·rw [if_neg c2] at this
    rw [decide_eq_true c1,decide_eq_false c2,if_pos (by simp)]; exact this
 ·have := fin (q : Int) r (by rw [Int.mul_comm]; generalize (q : Int) * (m : Int) = Z at *; omega) hlt
  have eQ : (if x < 0 ∧ r ≠ 0 then q + 1 else q) = q := if_neg (by omega)
  have eR : (if x < 0 ∧ r ≠ 0 then m - r else r) = r := if_neg (by omega)
  rw [eQ,eR]
  by_cases c2 : y < 0
  ·rw [if_pos c2] at this
   rw [decide_eq_false c1,decide_eq_true c2,if_pos (by simp)]; exact this
  ·rw [if_neg c2] at this
   rw [decide_eq_false c1,decide_eq_false c2,if_neg (by simp)]; exact this
theorem dvQ_le {x y : Int} (hy : y ≠ 0) : dvQ x y ≤ x.natAbs := by
 have hpos : 0 < y.natAbs := by omega
 have hdm := Nat.div_add_mod x.natAbs y.natAbs
 unfold dvQ
 have h1 := Nat.div_le_self x.natAbs y.natAbs
 have h2 : x.natAbs / y.natAbs ≤ y.natAbs * (x.natAbs / y.natAbs) := Nat.le_mul_of_pos_left _ hpos
 generalize x.natAbs / y.natAbs = q at *
 generalize x.natAbs % y.natAbs = r at *
 generalize y.natAbs * q = Z at *
 split <;> omega
theorem ediv_fit {x y : Int} (hx : Fit x) (hy : y ≠ 0) : Fit (x / y) := by
 have h1 := (dv_eq (x := x) hy).1
 have h2 := dvQ_le (x := x) hy
 unfold Fit at *
 rw [← h1,sgn_abs]
 exact Nat.lt_of_le_of_lt h2 hx
theorem emod_fit {x y : Int} (hy : Fit y) (hy0 : y ≠ 0) : Fit (x % y) := by
 have h1 := (dv_eq (x := x) hy0).2
 have h2 := Nat.mod_lt x.natAbs (show 0 < y.natAbs by omega)
 have h3 : dvR x y ≤ y.natAbs := by unfold dvR; split <;> omega
 have h4 : (x % y).natAbs ≤ y.natAbs := by omega
 exact Nat.lt_of_le_of_lt h4 hy
def divT (x y : Int) : AV := .tuple [.str (itxt (x / y)),.str (itxt (x % y)),.int .i64 0]
theorem div_run {x y : Int} (hx : Fit x) (hy : Fit y) (hy0 : y ≠ 0) (h : Heap) (lo : Nat) : (run lib).fn 81 [.str (itxt x),.str (itxt y)] h lo = some (divT x y,h) := by
 have bo := fun H lo => both_run hx hy H lo
 have lx := fit_len hx
 have ly := fit_len hy
 have hm0 : y.natAbs ≠ 0 := by omega
 have ov := fun H lo => over_run hm0 (agg_pure x) (agg_pure y) (by omega) (by omega) H lo
 obtain ⟨d1,d2⟩ := dv_eq (x := x) hy0
 have hql := dvQ_le (x := x) hy0
 have fq := ediv_fit (y := y) hx hy0
 have fr := emod_fit (x := x) hy hy0
 simp only [aggV] at bo
 have hyl : ¬ ((grp y.natAbs).length : Int) = 0 := by
  have : grp y.natAbs ≠ [] := fun e => hm0 (grp_nil.mp e)
  have := List.length_pos_iff.mpr this
  omega
 have s2 := lenv_sl ((agg_pure y).sl []).len
 rw [ints_len] at s2
 have rp := remV_pure x.natAbs y.natAbs
 have s1 := lenv_sl (rp.sl []).len
 rw [ints_len] at s1
 have hrl : (grp (x.natAbs % y.natAbs)).length ≤ 50 := Nat.le_trans (grp_len_le (Nat.le_of_lt (Nat.mod_lt _ (by omega)))) ly
 have tq := fun H lo => text_run (v := .lst 1 (ints (grp (dvQ x y)))) (n := dvQ x y) (!(decide (x < 0) == decide (y < 0))) (lst_pure _) (by have := grp_len_le hql; omega) H lo
 rw [d1,outT_fit fq] at tq
 have tr := fun v hv H lo => text_run (v := v) (n := dvR x y) false hv (by
  have h2 := fr
  have e : (x % y).natAbs = dvR x y := by omega
  have := fit_len h2
  rw [e] at this; omega) H lo
 have es : sgn false (dvR x y) = x % y := by rw [← d2]; rfl
 rw [es,outT_fit fr] at tr
 unfold divT
 rw [run_closed (x := x81) rfl rfl rfl rfl]
 by_cases c : x < 0 ∧ x.natAbs % y.natAbs ≠ 0
 ·obtain ⟨c1,c2⟩ := c
  have c3 : (0 : Int) < (grp (x.natAbs % y.natAbs)).length := by
   have : grp (x.natAbs % y.natAbs) ≠ [] := fun e => c2 (grp_nil.mp e)
   have := List.length_pos_iff.mpr this
   omega
  have pl := fun H lo => plus_run (v := .lst 1 (ints (grp (x.natAbs / y.natAbs)))) (u := .lsf 1 [.int .i64 1]) (a := x.natAbs / y.natAbs) (b := 1) (lst_pure _) (.inr ⟨1,.inr rfl,.inl rfl⟩) (by have := grp_len_le (Nat.div_le_self x.natAbs y.natAbs); omega) (by decide) H lo
  have mi := fun H lo => minus_run (agg_pure y) rp (Nat.le_of_lt (Nat.mod_lt _ (by omega))) (by omega) H lo
  have eq : dvQ x y = x.natAbs / y.natAbs + 1 := if_pos ⟨c1,c2⟩
  have er : dvR x y = y.natAbs - x.natAbs % y.natAbs := if_pos ⟨c1,c2⟩
  rw [eq] at tq
  have tr1 := tr (.lst 1 (ints (grp (y.natAbs - x.natAbs % y.natAbs)))) (by rw [er]; exact lst_pure _)
  rw [decide_eq_true c1] at bo tq
  have hwk : weak (.lsf 1 [.int .i64 1]) = .lsf 1 [.int .i64 1] := rfl
  simp (maxSteps := 1000000) (disch := omega) only [go_sem,x81,bo,splice_ok,s2,hyl,ov,s1,c3,one_run,hwk,pl,mi,tq,tr1]
 ·have eq : dvQ x y = x.natAbs / y.natAbs := if_neg c
  have er : dvR x y = x.natAbs % y.natAbs := if_neg c
  rw [eq] at tq
  have tr1 := tr (remV x.natAbs y.natAbs) (by rw [er]; exact rp)
  by_cases c1 : x < 0
  ·have c2 : x.natAbs % y.natAbs = 0 := by omega
   have c3 : ¬ (0 : Int) < (grp (x.natAbs % y.natAbs)).length := by rw [c2,grp_zero]; simp
   rw [decide_eq_true c1] at bo tq
   simp (maxSteps := 1000000) (disch := omega) only [go_sem,x81,bo,splice_ok,s2,hyl,ov,s1,c3,tq,tr1]
  ·rw [decide_eq_false c1] at bo tq
   simp (maxSteps := 1000000) (disch := omega) only [go_sem,x81,bo,splice_ok,s2,hyl,ov,s1,tq,tr1]
end Go.VI.Dump
namespace Go.VI.Num
end Go.VI.Num
namespace Go.VI.Dump
open Go.VI.Num
theorem PureSl_cells {z : Nat} {v : AV} {es : List AV} (p : PureSl z v es) : v.cells = [v] := by
 rcases p with ⟨rfl,rfl⟩ | ⟨z',rfl | rfl,hz⟩ <;> rfl
theorem PureSl_val {z : Nat} {v : AV} {es : List AV} (p : PureSl z v es) : v.val = true := by
 rcases p with ⟨rfl,rfl⟩ | ⟨z',rfl | rfl,hz⟩ <;> rfl
theorem gcd_loop (cx : Cx) (H : Heap) : ∀ (b a : Nat) (v u : AV),PureSl 1 v (ints (grp a)) → PureSl 1 u (ints (grp b)) → (grp a).length ≤ 1000 → (grp b).length ≤ 1000 →
  ∃ w,PureSl 1 w (ints (grp (Nat.gcd a b))) ∧ runC lib cx (.loop b105_0) ([(9,v),(10,u)],H) = some (.exit 0,([(9,w)],H)) := by
 intro b
 induction b using Nat.strongRecOn with
 | _ b ih =>
  intro a v u hv hu ha hb
  have s1 := lenv_sl (hu.sl []).len
  rw [ints_len] at s1
  by_cases h0 : b = 0
  ·subst h0
   refine ⟨v,by rw [Nat.gcd_zero_right]; exact hv, ?_⟩
   have c1 : ¬ (0 : Int) < (grp 0).length := by simp [grp_zero]
   rw [w_loop]
   simp (maxSteps := 1000000) (disch := omega) only [go_sem,s1,c1]
  ·have hpos : 0 < b := by omega
   have hlt := Nat.mod_lt a hpos
   have hl2 : (grp (a % b)).length ≤ 1000 := Nat.le_trans (grp_len_le (Nat.le_of_lt hlt)) hb
   obtain ⟨w,w1,w2⟩ := ih (a % b) hlt b u (remV a b) hu (remV_pure a b) hb hl2
   refine ⟨w, ?_, ?_⟩
   ·have e : Nat.gcd a b = Nat.gcd b (a % b) := by rw [Nat.gcd_comm a b,Nat.gcd_rec,Nat.gcd_comm]
    rw [e]; exact w1
   ·have c1 : (0 : Int) < (grp b).length := by
     have : grp b ≠ [] := fun e => h0 (grp_nil.mp e)
     have := List.length_pos_iff.mpr this
     omega
    have ov := fun H lo => over_run h0 hv hu (by omega) (by omega) H lo
    rw [w_loop]
    simp (maxSteps := 1000000) (disch := omega) only [go_sem,s1,c1,ov,w2]
theorem gcd_fit {x y : Int} (hx : Fit x) (hy : Fit y) : Fit ((Int.gcd x y : Nat) : Int) := by
 unfold Fit at *
 rw [Int.natAbs_natCast]
 unfold Int.gcd
 rcases Nat.eq_zero_or_pos x.natAbs with h | h
 ·rw [h,Nat.gcd_zero_left]; exact hy
 ·exact Nat.lt_of_le_of_lt (Nat.gcd_le_left _ h) hx
theorem gcd_run {x y : Int} (hx : Fit x) (hy : Fit y) (h : Heap) (lo : Nat) : (run lib).fn 105 [.str (itxt x),.str (itxt y)] h lo = some (.tuple [.str (itxt (Int.gcd x y : Nat)),.int .i64 0],h) := by
 have bo := fun H lo => both_run hx hy H lo
 have lx := fit_len hx
 have ly := fit_len hy
 have fg := gcd_fit hx hy
 obtain ⟨w,w1,w2⟩ := gcd_loop ⟨h.length,h.length,2,none⟩ (h ++ [(1,.box [.bool (decide (x < 0)),.lst 1 (ints (grp x.natAbs))]),(1,.box [.bool (decide (y < 0)),.lst 1 (ints (grp y.natAbs))])]) y.natAbs x.natAbs _ _ (agg_pure x) (agg_pure y) (by omega) (by omega)
 have hw1 := PureSl_cells w1
 have hw2 := PureSl_val w1
 have tx := fun H lo => text_run (n := Nat.gcd x.natAbs y.natAbs) false w1 (by have := fit_len fg; rw [Int.natAbs_natCast] at this; unfold Int.gcd at this; omega) H lo
 have es : sgn false (Nat.gcd x.natAbs y.natAbs) = ((Int.gcd x y : Nat) : Int) := rfl
 rw [es,outT_fit fg] at tx
 simp only [aggV] at bo
 rw [run_closed (x := x105) rfl rfl rfl rfl]
 simp (maxSteps := 1000000) (disch := omega) only [go_sem,x105,bo,splice_ok,w2,hw1,hw2,tx]
end Go.VI.Dump
