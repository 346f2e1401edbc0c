/- Maps, bytes turned into a text, values put into interfaces. -/
import Derived.Test.YtfpoegnmeoghpaaGreatDoorVIL
import Derived.MapKept
import Derived.Laws.BytesString
import Derived.Laws.Cells
set_option linter.unusedVariables false
set_option linter.unusedSimpArgs false
namespace Go.VI
set_option linter.unusedSectionVars false
variable [Globs] [Rounds]
section
variable {w : World} {m : Map} {h : Heap} {P : Program} {env : Env} {a : Act} {o : Oper} {X : Nat → Prop} {cx : Cx}
theorem isIfT_run {t : TypeId} (h : isIfT P t = true) : ∃ ms,P.underlying t = some (.interface ms) := by
 unfold isIfT at h
 split at h
 ·rename_i ms hm; exact ⟨ms,hm⟩
 ·cases h
theorem eq_held {t u : TypeId} {x : Value} {ms : Array (String × TypeId)} (h : P.underlying t = some (.interface ms)) : (Op.equal t (.iface u x) .nilIface).run P w = .ok false w := by
 show (Op.equalIn (9999 + 1) t (.iface u x) .nilIface).run P w = _
 unfold Op.equalIn
 simp only [Sem.run_bind,run_underlying h,Result.andThen_ok,Sem.run_pure]
theorem eq_nils {t : TypeId} {ms : Array (String × TypeId)} (h : P.underlying t = some (.interface ms)) : (Op.equal t .nilIface .nilIface).run P w = .ok true w := by
 show (Op.equalIn (9999 + 1) t .nilIface .nilIface).run P w = _
 unfold Op.equalIn
 simp only [Sem.run_bind,run_underlying h,Result.andThen_ok,Sem.run_pure]
theorem isnif_ok (he : Renv w m h env a) {neg : Bool} {x : Opd} {v : AV} (hk : okXI P o (.isnif neg x) = true) (hv : isnifv neg (x.ev env) = some v) : Reads P w m h a o v := by
 have key : ∀ {u : Value},R w (Live m h) m h (x.ev env) u → (u = .nilIface ∧ v = .bool (!neg)) ∨ ((∃ t y,u = .iface t y) ∧ v = .bool neg) := by
  intro u hr
  unfold isnifv at hv
  split at hv
  ·rename_i e
   rw [e] at hr
   simp only [R,RC] at hr
   simp only [Option.some.injEq] at hv
   exact .inl ⟨hr,hv.symm⟩
  ·rename_i t y e
   rw [e] at hr
   simp only [R] at hr
   obtain ⟨q,e1,_⟩ := hr
   simp only [Option.some.injEq] at hv
   exact .inr ⟨⟨_,_,e1⟩,hv.symm⟩
  ·cases hv
 have hc : a.eval (.const .nilIface) = .nilIface := rfl
 have hg : ∀ op t x' (u : Value),(u = .nilIface ∨ ∃ t y,u = .iface t y) → (eqGuard op t x' (.const .nilIface) u .nilIface).run P w = .ok () w := by
  rintro op t x' u (rfl | ⟨t,y,rfl⟩) <;> cases op <;> simp [eqGuard]
 simp only [okXI] at hk
 split at hk
 ·rename_i t x' t2 hop
  simp only [Bool.and_eq_true,Bool.not_eq_true'] at hk
  obtain ⟨⟨rfl,hs⟩,h1⟩ := hk
  obtain ⟨ms,hs⟩ := isIfT_run hs
  rcases key (okOpd_R he h1) with ⟨e,rfl⟩ | ⟨⟨q,y,e⟩,rfl⟩
  ·refine ⟨.bool true, ?_,R_bool.mpr (by simp)⟩
   simp only [execOp,hop,hc,e,Sem.run_bind,hg _ _ _ _ (.inl rfl),Result.andThen_ok]
   simp [binOp,eq_nils hs]
  ·refine ⟨.bool false, ?_,R_bool.mpr rfl⟩
   simp only [execOp,hop,hc,e,Sem.run_bind,hg _ _ _ _ (.inr ⟨_,_,rfl⟩),Result.andThen_ok]
   simp [binOp,eq_held hs]
 ·rename_i t x' t2 hop
  simp only [Bool.and_eq_true] at hk
  obtain ⟨⟨rfl,hs⟩,h1⟩ := hk
  obtain ⟨ms,hs⟩ := isIfT_run hs
  rcases key (okOpd_R he h1) with ⟨e,rfl⟩ | ⟨⟨q,y,e⟩,rfl⟩
  ·refine ⟨.bool false, ?_,R_bool.mpr (by simp)⟩
   simp only [execOp,hop,hc,e,Sem.run_bind,hg _ _ _ _ (.inl rfl),Result.andThen_ok]
   simp [binOp,eq_nils hs]
  ·refine ⟨.bool true, ?_,R_bool.mpr rfl⟩
   simp only [execOp,hop,hc,e,Sem.run_bind,hg _ _ _ _ (.inr ⟨_,_,rfl⟩),Result.andThen_ok]
   simp [binOp,eq_held hs]
 ·cases hk
theorem mkif_ok (he : Renv w m h env a) {t : Nat} {x : Opd} (hk : okXI P o (.mkif t x) = true) : Reads P w m h a o (.ifc t (x.ev env)) := by
 simp only [okXI] at hk
 split at hk
 ·rename_i t' y hop
  simp only [Bool.and_eq_true,beq_iff_eq,Bool.not_eq_true'] at hk
  obtain ⟨⟨⟨rfl,hn⟩,hs⟩,h1⟩ := hk
  have hr := okOpd_R he h1
  obtain ⟨d,hd⟩ := Option.isSome_iff_exists.mp hs
  refine ⟨.iface t' (a.eval y), ?_,by simp only [R]; exact ⟨_,rfl,hr⟩⟩
  have : ∀ ms,d ≠ .interface ms := by
   rintro ms rfl
   simp [isIfT,hd] at hn
  simp only [execOp,hop,Instr.makeInterface,Sem.run_bind,run_underlying hd,Result.andThen_ok]
  cases d <;> first | rfl | exact absurd rfl (this _)
 ·cases hk
theorem bytesOf_vals : ∀ {es : List AV} {l : List UInt8},bytesOf es = some l → es = l.map AV.byte
 | [],l,h => by simp [bytesOf] at h; subst h; rfl
 | e :: es,l,h => by
  unfold bytesOf at h
  split at h
  ·rename_i heq; cases heq
  ·rename_i n r heq
   cases heq
   split at h
   ·rename_i hc
    obtain ⟨l',h1,rfl⟩ := mE.mp h
    rw [bytesOf_vals h1]
    simp only [List.map_cons,AV.byte,List.cons.injEq,AV.int.injEq,true_and,and_true]
    have : n.toNat < 256 := by omega
    simp [Nat.toUInt8,UInt8.ofNat,UInt8.toNat,BitVec.toNat_ofNat]
    omega
   ·cases h
  ·cases h
theorem push_all : ∀ (l : List UInt8) (s : ByteArray),((l.map fun b => (b.toNat : Int)).foldl (fun r n => r.push (UInt8.ofNat n.toNat)) s) = ⟨s.data ++ l.toArray⟩
 | [],s => by simp
 | b :: l,s => by
  rw [List.map_cons,List.foldl_cons,push_all l]
  simp [ByteArray.push,UInt8.ofNat_toNat]
theorem toStr_ok (hi : Inv w m h) (he : Renv w m h env a) {x : Opd} {es : List AV} {l : List UInt8} (hk : okXI P o (.toStr x) = true) (hes : asList h 1 (x.ev env) = some es) (hl : bytesOf es = some l) : Reads P w m h a o (.str l) := by
 simp only [okXI] at hk
 split at hk
 ·rename_i s d y hop
  simp only [Bool.and_eq_true] at hk
  obtain ⟨⟨h1,h2⟩,h3⟩ := hk
  have hr := okOpd_R he h3
  unfold asList at hes
  split at hes
  ·rename_i hz
   have hd : P.underlying d = some .string := by
    unfold isStrT at h1
    split at h1
    ·assumption
    ·cases h1
   obtain ⟨e,hs,hu8⟩ : ∃ e,P.underlying s = some (.slice e) ∧ P.underlying e = some (.int .u8) := by
    unfold bytesT at h2
    split at h2
    ·rename_i e hs
     simp only [Bool.and_eq_true,beq_iff_eq] at h2
     exact ⟨e,hs,intT_run h2.1⟩
    ·cases h2
   obtain ⟨ad,cap,hu,hcap,hmem⟩ := slice_mem hi hr hes hz
   have hbv := bytesOf_vals hl
   have hlen : es.length = l.length := by rw [hbv]; simp
   refine ⟨.string ⟨l.toArray⟩, ?_,R_str.mpr rfl⟩
   have key : (Conv.bytesToString (.slice ad es.length cap)).run P w = .ok (.string ⟨l.toArray⟩) w := by
    rcases ad with _ | ad
    ·rcases hmem with h0 | ⟨b,o',e1,_⟩
     ·subst h0
      have : l = [] := List.eq_nil_of_length_eq_zero (by rw [← hlen]; rfl)
      subst this
      simp [Conv.bytesToString]
      rfl
     ·cases e1
    ·have hcells : (loadCells ad es.length).run P w = .ok ((l.map fun b => (b.toNat : Int)).map (Value.int .u8)).toArray w := by
      have hc : ∀ j v,((l.map fun b => (b.toNat : Int)).map (Value.int .u8))[j]? = some v → w.cell? (ad.add j) = some v := by
       intro j v hj
       rcases hmem with h0 | ⟨b,o',e1,hb,hz0,hE⟩
       ·rw [h0] at hlen
        have : l = [] := List.eq_nil_of_length_eq_zero hlen.symm
        subst this
        simp at hj
       ·cases e1
        have hj' : ∃ q,l[j]? = some q ∧ v = .int .u8 (q.toNat : Int) := by
         rw [List.getElem?_map,List.getElem?_map] at hj
         obtain ⟨z,hz,rfl⟩ := mE.mp hj
         obtain ⟨q,hq,rfl⟩ := mE.mp hz
         exact ⟨q,hq,rfl⟩
        obtain ⟨q,hq,rfl⟩ := hj'
        have hej : es[j]? = some (AV.byte q) := by rw [hbv,List.getElem?_map,hq]; rfl
        obtain ⟨v',r1,r2,r3,r4⟩ := RCE_get _ _ _ hE j _ hej
        simp only [AV.byte,RC] at r1
        subst r1
        have := r4 0 (.int .u8 (q.toNat : Int)) rfl
        rw [Nat.mul_one,Nat.add_zero] at this
        rw [show (⟨b,o',none⟩ : Addr).add j = ⟨b,o' + j,none⟩ from add_plain b o' j]
        exact this
      have := run_loadCells_list (P := P) (w := w) ad ((l.map fun b => (b.toNat : Int)).map (Value.int .u8)) hc
      rw [show es.length = ((l.map fun b => (b.toNat : Int)).map (Value.int .u8)).length by simp [hlen]]
      exact this
     rw [run_bytesToString w ad es.length cap _ hcells,push_all]
     simp
   rw [show execOp a.eval o = (do pure (.value (← convert s d (a.eval y)))) by simp [execOp,hop],hu]
   have hconv : (convert s d (.slice ad es.length cap)).run P w = (Conv.bytesToString (.slice ad es.length cap)).run P w := by
    simp only [convert,Sem.run_bind,run_underlying hs,run_underlying hd,Result.andThen_ok]
    simp [run_underlying hu8]
   simp [hconv,key]
  ·cases hes
 ·cases hk
theorem MR.find {k : IntKind} (kk : IntKind) (n : Int) : ∀ {kvs : List (Int × AV)} {es : List MapEntry},MR w X k kvs es → ∀ i,
  (mfind n kvs = none ∧ Instr.findNow (.int kk) (.int k n) es i = some none ∧ (∀ v',mset n v' kvs = kvs ++ [(n,v')]) ∧ mdrop n kvs = kvs) ∨
  ∃ j e v,mfind n kvs = some v ∧ Instr.findNow (.int kk) (.int k n) es i = some (some (i + j,e.val)) ∧ es[j]? = some e ∧ e.key = .int k n ∧ RC w X v e.val ∧
   (∀ v' u',RC w X v' u' → MR w X k (mset n v' kvs) (es.set j { e with val := u' })) ∧ MR w X k (mdrop n kvs) (es.eraseIdx j)
 | [],es,h,i => by
  simp only [MR] at h
  subst h
  exact .inl ⟨rfl,rfl,fun _ => rfl,rfl⟩
 | (q,v) :: r,es,h,i => by
  simp only [MR] at h
  obtain ⟨e,es',rfl,h1,h2,h3⟩ := h
  have hs : Instr.sameNow (.int kk) (.int k n) e.key = some (n == q) := by rw [h1]; simp [Instr.sameNow]
  by_cases hq : q = n
  ·subst hq
   refine .inr ⟨0,e,v,by simp [mfind], ?_,rfl,h1,h2,fun v' u' hv => ?_, ?_⟩
   ·simp [Instr.findNow,hs]
   ·simp only [mset,if_pos,MR,List.set_cons_zero]
    exact ⟨_,es',rfl,h1,hv,h3⟩
   ·simp only [mdrop,if_pos,List.eraseIdx_cons_zero]; exact h3
  ·have hf : (n == q) = false := by simp [Ne.symm hq]
   rw [hf] at hs
   rcases MR.find kk n h3 (i + 1) with ⟨g1,g2,g3,g4⟩ | ⟨j,e',v1,g1,g2,g3,g4,g5,g6,g7⟩
   ·refine .inl ⟨by simp [mfind,hq,g1],by simp [Instr.findNow,hs,g2],fun v' => by simp [mset,hq,g3 v'],by simp [mdrop,hq,g4]⟩
   ·refine .inr ⟨j + 1,e',v1,by simp [mfind,hq,g1], ?_,by simpa using g3,g4,g5,fun v' u' hv => ?_, ?_⟩
    ·simp [Instr.findNow,hs,g2]; omega
    ·simp only [mset,if_neg hq,MR,List.set_cons_succ]
     exact ⟨_,_,rfl,h1,h2,g6 v' u' hv⟩
    ·simp only [mdrop,if_neg hq,MR,List.eraseIdx_cons_succ]
     exact ⟨_,_,rfl,h1,h2,g7⟩
theorem MR.push {k : IntKind} {n : Int} {v' : AV} {e' : MapEntry} (h1 : e'.key = .int k n) (h2 : RC w X v' e'.val) : ∀ {kvs : List (Int × AV)} {es : List MapEntry},MR w X k kvs es → MR w X k (kvs ++ [(n,v')]) (es ++ [e'])
 | [],es,h => by
  simp only [MR] at h
  subst h
  simp only [List.nil_append,MR]
  exact ⟨_,_,rfl,h1,h2,rfl⟩
 | (q,v) :: r,es,h => by
  simp only [MR] at h
  obtain ⟨e,es',rfl,g1,g2,g3⟩ := h
  simp only [List.cons_append,MR]
  exact ⟨_,_,rfl,g1,g2,MR.push h1 h2 g3⟩
theorem mapKey_run {t : TypeId} {k : IntKind} (h : VI.mapKey P t = some k) : ∃ kt et,P.underlying t = some (.map kt et) ∧ P.underlying kt = some (.int k) := by
 unfold VI.mapKey at h
 split at h
 ·rename_i kt et ht; exact ⟨kt,et,ht,intT_run h⟩
 ·cases h
theorem mapZero_run {t : TypeId} {zero : AV} (h : mapZero P t zero = true) : ∃ zv,(∀ e k,P.underlying t = some (.map k e) → ∀ w,(zeroValue e).run P w = .ok zv w) ∧ okConst zero zv = true := by
 unfold mapZero at h
 split at h
 ·rename_i kt e ht
  split at h
  ·rename_i v hv
   obtain ⟨i,h1,h2⟩ := bE.mp hv
   refine ⟨v,fun e' k' h' w => ?_,h⟩
   rw [ht] at h'
   cases h'
   simp [zeroValue,typeInfo,h1,h2]
  ·cases h
 ·cases h
theorem check_int {kt : TypeId} {kk k : IntKind} {n : Int} (hd : P.underlying kt = some (.int kk)) (e : Bool) : (Instr.checkKey e 10000 kt (.int k n)).run P w = .ok () w := by
 show (Instr.checkKey e (9999 + 1) kt (.int k n)).run P w = _
 unfold Instr.checkKey
 simp only [Sem.run_bind,run_underlying hd,Result.andThen]
 rfl
theorem map_mem (hi : Inv w m h) {id ver : Nat} {u : Value} {d : Rcd} {k : IntKind} {kvs : List (Int × AV)} (hr : R w (Live m h) m h (.yld id ver) u) (hid : h[id]? = some (ver,.rcd d (.spc (.map k kvs)))) :
  ∃ b es clock,u = .map (some b) ∧ m[id]? = some b ∧ w.heap[b]? = some (.map es clock) ∧ (d.base + d.ns ≤ h.length ∧ d.env = []) ∧ MR w (Live m h) k kvs es.toList := by
 simp only [R] at hr
 obtain ⟨q,l,e,v0,blk,h1,h2,h3⟩ := hr
 rw [hid] at h1
 cases h1
 obtain ⟨h4,h5⟩ := h3 rfl _ _ rfl
 simp only [RS.knd] at h4
 subst h4
 obtain ⟨b,ob,e1,e2,e3⟩ := hi.rcd id _ _ _ hid
 rw [h5] at e1
 cases e1
 obtain ⟨e4,e4',es,clock,rfl,e5⟩ := e3
 exact ⟨l,es,clock,e,h5,e2,⟨e4,e4'⟩,e5⟩
theorem mget_ok (hi : Inv w m h) (he : Renv w m h env a) {zero : AV} {ok : Bool} {x k : Opd} {v : AV} (hk : okXI P o (.mget zero ok x k) = true) (hv : mgetv h zero ok (x.ev env) (k.ev env) = some v) : Reads P w m h a o v := by
 simp only [okXI] at hk
 split at hk
 ·rename_i t y j c hop
  simp only [Bool.and_eq_true,beq_iff_eq] at hk
  obtain ⟨⟨⟨⟨rfl,k1⟩,k2⟩,k3⟩,k4⟩ := hk
  obtain ⟨zv,hz0,hz1⟩ := mapZero_run k2
  have rx := okOpd_R he k3
  have rk := okOpd_R he k4
  obtain ⟨kk,k1⟩ := Option.isSome_iff_exists.mp k1
  obtain ⟨kt,et,ht,hkt⟩ := mapKey_run k1
  unfold mgetv at hv
  split at hv
  ·rename_i id ver kd n ex ek
   rw [ex] at rx
   rw [ek] at rk
   rw [R_int] at rk
   split at hv
   ·rename_i v1 d kd' kvs hid
    split at hv
    ·rename_i hc
     obtain ⟨rfl,rfl⟩ := hc
     obtain ⟨b,es,clock,hu,hm,hb,_,hmr⟩ := map_mem hi rx hid
     have hz := hz0 et kt ht
     have hkey := check_int (w := w) (n := n) (k := kd') hkt es.isEmpty
     unfold Reads
     rw [show execOp a.eval o = (do pure (.value (← Instr.lookup t (a.eval y) (a.eval j) c))) by simp [execOp,hop],hu,rk]
     rcases MR.find kk n hmr 0 with ⟨g1,g2,_⟩ | ⟨q,e,v1,g1,g2,_,_,g5,_⟩
     ·rw [g1] at hv
      simp only [Option.some.injEq] at hv
      subst hv
      refine ⟨if c then .tuple #[zv,.bool false] else zv, ?_, ?_⟩
      ·simp [Instr.lookup,run_underlying ht,MapKept.run_getObj_map hb,hkey,MapKept.run_findKey hkt g2,hz,Result.andThen]
      ·have rz : R w (Live m h) m h zero zv := R.of_RC _ _ (okConst_RC hz1)
       cases c with
       | true => simp only [if_true,R]; exact ⟨[zv,.bool false],rfl,by simp only [RL]; exact ⟨_,_,rfl,rz,_,_,rfl,R_bool.mpr rfl,rfl⟩⟩
       | false => simpa using rz
     ·rw [g1] at hv
      simp only [Option.some.injEq] at hv
      subst hv
      refine ⟨if c then .tuple #[e.val,.bool true] else e.val, ?_, ?_⟩
      ·simp [Instr.lookup,run_underlying ht,MapKept.run_getObj_map hb,hkey,MapKept.run_findKey hkt g2,Result.andThen]
      ·have rz : R w (Live m h) m h v1 e.val := R.of_RC _ _ g5
       cases c with
       | true => simp only [if_true,R]; exact ⟨[e.val,.bool true],rfl,by simp only [RL]; exact ⟨_,_,rfl,rz,_,_,rfl,R_bool.mpr rfl,rfl⟩⟩
       | false => simpa using rz
    ·cases hv
   ·cases hv
  ·cases hv
 ·cases hk
theorem map_put (hi : Inv w m h) {id ver b : Nat} {d : Rcd} (hd : d.base + d.ns ≤ h.length ∧ d.env = []) {k : IntKind} {kvs kvs' : List (Int × AV)} {es es' : Array MapEntry} {clock clock' : Nat} (hid : h[id]? = some (ver,.rcd d (.spc (.map k kvs)))) (hm : m[id]? = some b) (hb : w.heap[b]? = some (.map es clock)) {lo : Nat} (hlo : lo ≤ id) (hr : MR w (Live m h) k kvs' es'.toList) :
  Step lo w m h { w with heap := w.heap.setIfInBounds b (.map es' clock') } m (h.set id (ver,.rcd d (.spc (.map k kvs')))) ∧ Inv { w with heap := w.heap.setIfInBounds b (.map es' clock') } m (h.set id (ver,.rcd d (.spc (.map k kvs')))) := by
 have hlt := hi.lt hid (by simp) hm
 have hmm : m.set id b = m := by
  refine List.ext_getElem? fun j => ?_
  by_cases hj : j = id
  ·subst hj; rw [List.getElem?_set_self (by rw [hi.len]; exact (List.getElem?_eq_some_iff.mp hid).1),hm]
  ·exact List.getElem?_set_ne (by omega)
 have hold : ∀ q,q ≠ b → (w.heap.setIfInBounds b (.map es' clock'))[q]? = w.heap[q]? := fun q hq => by simp [Ne.symm hq]
 have p : Put w m h id ver (.rcd d (.spc (.map k kvs))) b { w with heap := w.heap.setIfInBounds b (.map es' clock') } ver (.rcd d (.spc (.map k kvs'))) b :=
  ⟨hi,hid,hm,rfl,rfl,rfl,by simp,fun q hq e => hold q fun e' => (by have := e e'; cases this),Nat.le_refl _,.inr (.inl ⟨rfl,by simp⟩),fun _ => .inr (.inr (.inl ⟨_,_,_,_,rfl,rfl,by rw [hmm],rfl,fun l e => by cases e⟩))⟩
 have s := p.step (lo := lo) hlo
 have i := p.invR (fun h => by cases h) (fun d2 st2 he => by
  cases he
  exact ⟨.map es' clock',by simp [hlt],by simpa using hd.1,hd.2,es',clock',rfl,hr.keep s.keep⟩)
 rw [hmm] at s i
 exact ⟨s,i⟩
theorem toArray_set {es : Array MapEntry} {j : Nat} {e : MapEntry} (f : MapEntry → MapEntry) (hj : es.toList[j]? = some e) : (es.modify j f).toList = es.toList.set j (f e) := by
 refine List.ext_getElem? fun q => ?_
 simp only [Array.getElem?_toList,Array.getElem?_modify]
 by_cases hq : j = q
 ·subst hq
  have hlt := (List.getElem?_eq_some_iff.mp hj).1
  rw [List.getElem?_set_self hlt]
  simp only [Array.getElem?_toList] at hj
  simp [hj]
 ·rw [List.getElem?_set_ne hq]
  simp [hq]
theorem mput_ok (hi : Inv w m h) (he : Renv w m h env a) {x k v : Opd} {h' : Heap} (hk : okXI P o (.mput x k v) = true) (hcl : (v.ev env).closed = true) (hp : mupdv cx h (x.ev env) (k.ev env) (fun n => mset n (v.ev env)) = some h') :
  ∃ w',(execOp a.eval o).run P w = .ok .skip w' ∧ Step cx.lo w m h w' m h' ∧ Inv w' m h' := by
 have key : ∀ (t : TypeId) (y j u : Operand),(VI.mapKey P t).isSome = true → okOpd y x = true → okOpd j k = true → okOpd u v = true →
   ∃ w',(Instr.mapUpdate t (a.eval y) (a.eval j) (a.eval u)).run P w = .ok () w' ∧ Step cx.lo w m h w' m h' ∧ Inv w' m h' := by
  intro t y j u k1 k2 k3 k4
  have rx := okOpd_R he k2
  have rk := okOpd_R he k3
  have rv := R.closed _ _ hcl (okOpd_R he k4)
  obtain ⟨kk,k1⟩ := Option.isSome_iff_exists.mp k1
  obtain ⟨kt,et,ht,hkt⟩ := mapKey_run k1
  unfold mupdv at hp
  split at hp
  ·rename_i id ver kd n ex ek
   rw [ex] at rx
   rw [ek,R_int] at rk
   split at hp
   ·rename_i v1 d kd' kvs hid
    split at hp
    ·rename_i hc
     obtain ⟨rfl,rfl,hlo,_⟩ := hc
     simp only [Option.some.injEq] at hp
     subst hp
     obtain ⟨b,es,clock,hu,hm,hb,hd0,hmr⟩ := map_mem hi rx hid
     have hkey := check_int (w := w) (n := n) (k := kd') hkt false
     rw [hu,rk]
     rcases MR.find kk n hmr 0 with ⟨g1,g2,g3,_⟩ | ⟨q,e,v1,g1,g2,g3',g4,g5,g6,_⟩
     ·obtain ⟨s1,i1⟩ := map_put (es' := es.push { key := .int kd' n,val := a.eval u,born := clock }) (clock' := clock + 1) hi hd0 hid hm hb hlo (by
       rw [Array.toList_push]
       exact MR.push rfl rv hmr)
      rw [g3]
      exact ⟨_,by simp [Instr.mapUpdate,run_underlying ht,MapKept.run_getObj_map hb,hkey,MapKept.run_findKey hkt g2,MapKept.run_setObj_map _ hb,Result.andThen],s1,i1⟩
     ·have hq : es[0 + q]? = some e := by simpa using g3'
      have hst : (Instr.keyThatStays (.int kd' n) (.int kd' n)).run P w = .ok (.int kd' n) w := MapKept.run_keyThatStays (d := .int kd') (by simp [MapKept.IsKey])
      obtain ⟨s1,i1⟩ := map_put (es' := es.modify (0 + q) fun e => { e with key := .int kd' n,val := a.eval u }) (clock' := clock) hi hd0 hid hm hb hlo (by
       rw [toArray_set _ (by simpa using g3')]
       have := g6 _ _ rv
       rw [Nat.zero_add]
       rw [← g4]
       exact this)
      refine ⟨_, ?_,s1,i1⟩
      simp [Instr.mapUpdate,run_underlying ht,MapKept.run_getObj_map hb,hkey,MapKept.run_findKey hkt g2,MapKept.run_setObj_map _ hb,Result.andThen,show es[q]? = some e by simpa using hq,g4,hst]
    ·cases hp
   ·cases hp
  ·cases hp
 simp only [okXI] at hk
 split at hk
 ·rename_i t y j u hop
  simp only [Bool.and_eq_true] at hk
  obtain ⟨⟨⟨k1,k2⟩,k3⟩,k4⟩ := hk
  obtain ⟨w',h1,h2⟩ := key t y j u k1 k2 k3 k4
  exact ⟨w',by simp [execOp,hop,h1],h2⟩
 ·rename_i t y j u hop
  simp only [Bool.and_eq_true] at hk
  obtain ⟨⟨⟨k1,k2⟩,k3⟩,k4⟩ := hk
  obtain ⟨w',h1,h2⟩ := key t y j u k1 k2 k3 k4
  exact ⟨w',by simp [execOp,hop,h1],h2⟩
 ·cases hk
theorem mdel_ok (hi : Inv w m h) (he : Renv w m h env a) {x k : Opd} {h' : Heap} (hk : okXI P o (.mdel x k) = true) (hp : mupdv cx h (x.ev env) (k.ev env) mdrop = some h') :
  ∃ w',(execOp a.eval o).run P w = .ok (.value (.tuple #[])) w' ∧ Step cx.lo w m h w' m h' ∧ Inv w' m h' := by
 simp only [okXI] at hk
 split at hk
 ·rename_i y j t t2 hop
  simp only [Bool.and_eq_true] at hk
  obtain ⟨⟨k1,k2⟩,k3⟩ := hk
  have rx := okOpd_R he k2
  have rk := okOpd_R he k3
  obtain ⟨kk,k1⟩ := Option.isSome_iff_exists.mp k1
  obtain ⟨kt,et,ht,hkt⟩ := mapKey_run k1
  unfold mupdv at hp
  split at hp
  ·rename_i id ver kd n ex ek
   rw [ex] at rx
   rw [ek,R_int] at rk
   split at hp
   ·rename_i v1 d kd' kvs hid
    split at hp
    ·rename_i hc
     obtain ⟨rfl,rfl,hlo,_⟩ := hc
     simp only [Option.some.injEq] at hp
     subst hp
     obtain ⟨b,es,clock,hu,hm,hb,hd0,hmr⟩ := map_mem hi rx hid
     have hkey := check_int (w := w) (n := n) (k := kd') hkt es.isEmpty
     have ha : a.eval y = .map (some b) := hu
     rcases MR.find kk n hmr 0 with ⟨g1,g2,_,g4⟩ | ⟨q,e,v1,g1,g2,g3',g4,g5,_,g7⟩
     ·rw [g4]
      obtain ⟨s1,i1⟩ := map_put (es' := es) (clock' := clock) hi hd0 hid hm hb hlo hmr
      exact ⟨_,by simp [execOp,hop,ha,rk,resolve,invoke,builtin,Builtin.delete_,run_underlying ht,MapKept.run_getObj_map hb,hkey,MapKept.run_findKey hkt g2,MapKept.run_setObj_map _ hb,Result.andThen],s1,i1⟩
     ·obtain ⟨s1,i1⟩ := map_put (es' := es.eraseIdxIfInBounds q) (clock' := clock) hi hd0 hid hm hb hlo (by
       have hlt : q < es.size := by simpa using (List.getElem?_eq_some_iff.mp g3').1
       rw [Array.eraseIdxIfInBounds,dif_pos hlt,Array.toList_eraseIdx]
       exact g7)
      exact ⟨_,by simp [execOp,hop,ha,rk,resolve,invoke,builtin,Builtin.delete_,run_underlying ht,MapKept.run_getObj_map hb,hkey,MapKept.run_findKey hkt g2,MapKept.run_setObj_map _ hb,Result.andThen],s1,i1⟩
    ·cases hp
   ·cases hp
  ·cases hp
 ·cases hk
theorem mkmap_ok (hi : Inv w m h) {s ver : Nat} {k : IntKind} {h' : Heap} (hk : okXI P o (.mkmap s k) = true) (hm : mkAt cx s (.rcd (Rcd.at (cx.base + s) (.map k [])) (.spc (.map k []))) h = some (ver,h')) (hlo : cx.lo ≤ cx.base) :
  ∃ u w' m',(execOp a.eval o).run P w = .ok (.value u) w' ∧ Step cx.lo w m h w' m' h' ∧ Inv w' m' h' ∧ R w' (Live m' h') m' h' (.yld (cx.base + s) ver) u := by
 simp only [okXI] at hk
 split at hk
 ·rename_i t hop
  obtain ⟨v0,blk0,b0,p,rfl,_⟩ := mk_put hi hm (below_new w (.map #[] 0)) (Nat.le_refl _)
  refine ⟨.map (some w.heap.size),w.alloc (.map #[] 0),_, ?_,p.step (by omega),p.invR (fun h => by cases h) (fun d st e => ?_), ?_⟩
  ·simp [execOp,hop,Instr.makeMap]
  ·cases e
   exact ⟨_,heap_alloc_new w _,by simp only [Rcd.at,List.length_set]; have := (List.getElem?_eq_some_iff.mp p.hid).1; omega,rfl,#[],0,rfl,rfl⟩
  ·simp only [R]
   exact ⟨1,w.heap.size,rfl,ver,_,p.hset,Nat.le_refl _,fun _ d st e => by cases e; exact ⟨rfl,p.mset⟩⟩
 ·cases hk
end
end Go.VI
