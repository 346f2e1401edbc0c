/- Walking the evaluator by rewriting: loops over functions. -/
import Derived.Test.YtfpoegnmeoghpaaGreatDoorVIZ
set_option linter.unusedVariables false
set_option linter.unusedSimpArgs false
namespace Go.VI
@[go_sem] theorem ao9(b:Nat)(k:Bool)(f:Nat)(cs:List AV)(h:Heap):aU b k (.fn f cs) h=(gU b k cs h).map fun(cs,h)=>(.fn f cs,h):=by simp only[aU]
@[go_sem] theorem ao'(b:Nat)(k:Bool)(cs:List AV)(h:Heap):aU b k (.bD cs) h=some (.bD cs,h):=by simp[aU]
@[go_sem] theorem apa(b f:Nat)(cs:List AV)(h:Heap):eF b (.fn f cs) h=(aU b true (.fn f cs) h).map (·.1):=rfl
@[go_sem] theorem apb(cs:List AV):(AV.bD cs).val=true:=rfl
@[go_sem] theorem apc(i v o:Nat):(AV.aJ i v o).val=true:=rfl
@[go_sem] theorem apd(cs:List AV):(AV.bD cs).cells=[.bD cs]:=rfl
@[go_sem] theorem ape:AV.gZ.cells=[.gZ]:=rfl
@[go_sem] theorem contains_nil(a:Nat):([]:List Nat).contains a=false:=rfl
@[go_sem] theorem contains_cons(a b:Nat)(l:List Nat):(b::l).contains a=(decide (a=b)||l.contains a):=by simp
variable {L:Lib}
theorem vN{lo ns s g it v:Nat}{caps:List AV}{env:Env}{h fr fr':Heap}{f:aK}{b:av}{d':bQ}{r:AV}(hf:f.ev env=.fn it caps)(hs:s<ns)(hb:fr[s]?=some (v,b))
  (hc:(run L).fn it (.cZ (h.length+s) (v+1)::caps) (h++fr.set s (v+1,.ay ⟨g,lo,h.length,ns,env⟩ .ready)) lo=some (r,h++fr')) (hr:fr'[s]?=some (v+1,.ay d' .ready)) (hit:it<1000:=by decide) :
  aA L ⟨lo,h.length,ns,none⟩ (.jG s f g) (env,h++fr)=some (.norm,(env,h++fr'.set s (v+1,.dead))):=by
 rw[Qd];simp only[exec,hf,xZ]
 have hm:bV ⟨lo,h.length,ns,none⟩ s (.ay ⟨g,lo,h.length,ns,env⟩ .ready) (h++fr)=some (v+1,h++fr.set s (v+1,.ay ⟨g,lo,h.length,ns,env⟩ .ready)):=by
  rw[qN,hb,sF,if_pos hs]
 have e1:iq it=it:=by unfold iq;rw[if_pos hit]
 have e2:∀ y:AV,pE it [y] caps=y::caps:=fun y=>by unfold pE;rw[if_pos hit];rfl
 rw[hm];simp only[Option.bind_some,e1,e2,hc,bH,hr,if_true,eB]
theorem NE{lo ns s g it v:Nat}{caps:List AV}{env:Env}{h fr fr':Heap}{f:aK}{b:av}{d':bQ}{r:AV}{e:Ex}(hf:f.ev env=.fn it caps)(hs:s<ns)(hb:fr[s]?=some (v,b))
  (hc:(run L).fn it (.cZ (h.length+s) (v+1)::caps) (h++fr.set s (v+1,.ay ⟨g,lo,h.length,ns,env⟩ .ready)) lo=some (r,h++fr')) (hr:fr'[s]?=some (v+1,.ay d' (.done e))) (hit:it<1000:=by decide) :
  aA L ⟨lo,h.length,ns,none⟩ (.jG s f g) (env,h++fr)=some (e,(env,h++fr'.set s (v+1,.dead))):=by
 rw[Qd];simp only[exec,hf,xZ]
 have hm:bV ⟨lo,h.length,ns,none⟩ s (.ay ⟨g,lo,h.length,ns,env⟩ .ready) (h++fr)=some (v+1,h++fr.set s (v+1,.ay ⟨g,lo,h.length,ns,env⟩ .ready)):=by
  rw[qN,hb,sF,if_pos hs]
 have e1:iq it=it:=by unfold iq;rw[if_pos hit]
 have e2:∀ y:AV,pE it [y] caps=y::caps:=fun y=>by unfold pE;rw[if_pos hit];rfl
 rw[hm];simp only[Option.bind_some,e1,e2,hc,bH,hr,if_true,eB]
theorem uI{cx:Cx}{id aj lo base ns g:Nat}{env jT gB:Env}{args:List AV}{x:iR}{H H1 H2:Heap}{d1 d2:bQ}{e:Ex}(hid:H[id]?=some (aj,.ay ⟨g,lo,base,ns,env⟩ .ready))(h1:cx.lo<=lo)(h2:lo<=id)(h3:lo<=base)(hcl:AV.jw args=true)
  (hx:L.dN g=some x) (hl:args.length=x.ps.length)
  (ha:aA L ⟨lo,base,ns,some (id,aj)⟩ x.fZ ((x.ps.zip args).foldl (fun e p=>e.set p.1 p.2) env,H)=some (.norm,(jT,H1))) (xq:H1[id]?=some (aj,.ay d1 .ready))
  (hb:aA L ⟨lo,base,ns,some (id,aj)⟩ x.body (jT,H1.set id (aj,.ay d1 .busy))=some (e,(gB,H2))) (gD:H2[id]?=some (aj,.ay d2 .busy)) :
  fF (run L) cx id aj args H=some (.bool (e==.norm),H2.set id (aj,.ay d2 (if e=.norm then .ready else .done e))):=by
 simp only[fF,hid,h1,h2,h3,hcl,and_self,if_true];rw[ZC];simp only[hx,Option.bind_some,round,hl,if_true,ha,xq,hb,gD,Option.map_some]
theorem oz{lo ns sz s aj off:Nat}{h fr:Heap}{v:AV}{p:Nat×Nat}(hlo:lo<=h.length)(hc:v.closed=true) :
  dK ⟨lo,h.length,ns,some p⟩ (h++fr) sz (.aJ (h.length+s) aj off) v=if v.cells.length=sz/\v.val=true then sG s lo ns aj off h fr v fr[s]? else none:=by
 by_cases hv:v.cells.length=sz/\v.val=true
 ·simp only[dK,hv,and_self,if_true,bH]
  cases fr[s]? with
  |none=>rfl
  |some x =>
   obtain⟨w,b⟩:=x
   cases b with
   |box cs =>
    have hle:lo<=h.length+s:=by omega
    by_cases hw:w=aj
    ·simp[sG,hw,hle,hc]
    ·simp[sG,hw]
   |_=>rfl
 ·simp[dK,hv]
theorem aes{lo ns s aj off:Nat}{h fr:Heap}{k:IntKind}{n:Int}{p:Nat×Nat}(hlo:lo<=h.length) :
  dK ⟨lo,h.length,ns,some p⟩ (h++fr) 1 (.aJ (h.length+s) aj off) (.int k n)=sG s lo ns aj off h fr (.int k n) fr[s]?:=by
 rw[oz hlo rfl,if_pos ⟨rfl,rfl⟩]
end Go.VI
