/- Parts of the proof. Conditions: none. -/
import Derived.Test.YthmbnnjimbjplaaGreatDoorTu5
import Derived.Laws.IdiomStrings
import Derived.MapKept
set_option linter.unusedSimpArgs false
set_option linter.unusedVariables false
namespace Go.AM
open List Nat Bool Option
open Go Go.RowKit
variable {dN:Array MapEntry} {h':Heap} {t:TypeId} {kv mv xv:Value} {k m x:AV}
section
variable {P:Program} {w0 w:World} {μ:Mu} {h:Heap} {ρ:Operand->AV} {ρc:Operand->Value}
theorem Fh(hg:Good w0 μ h w){u ty:TypeId}{ts:List TypeId}{i:Nat×Nat}(hi:ur P t=some i){d s v:AV}{dv sv:Value}(hd:VR w0 μ d dv)(hs:VR w0 μ s sv)(ha:ES i.1 d s h=some (v,h')) :
  ∃ vc w',(Builtin.copy_ (t :: ts).toArray ty #[dv,sv]).run P w = .ok vc w'/\VR w0 μ v vc/\Good w0 μ h' w'/\Ext μ h w μ h' w':=by
 obtain ⟨e,inf,hu,eV,hsz,hb,hp,zP⟩:=n4 hi;have hz:∀ w,(sizeOf e).run P w = .ok i.1 w:=fun w=>by simp [sizeOf,typeInfo,eV,hsz]
 unfold ES at ha;split at ha
 ·cases ha
 ·rename_i m hm;split at ha
  ·cases ha;cases hd
   have hlen:(Builtin.lenOf sv).run P w = .ok m w:=by
    cases s<;>simp only [iB,reduceCtorEq,Option.some.injEq] at hm
    ·subst hm;obtain ⟨s,rfl,rfl⟩:=hs.ef;simp [Builtin.lenOf]
    ·subst hm;cases hs;simp [Builtin.lenOf]
    ·subst hm;cases hs;simp [Builtin.lenOf]
    ·subst hm;cases hs;simp [Builtin.lenOf]
   have QD:∃ us,(Builtin.firstCells i.1 0 sv).run P w = .ok us w:=by
    have zero:∀ (a:Addr) (w:World),(loadCells a 0).run P w = .ok #[] w:=fun a w=>by simp [loadCells,loadCellsFrom]
    cases s<;>simp only [iB,reduceCtorEq,Option.some.injEq] at hm
    ·obtain ⟨s,rfl,rfl⟩:=hs.ef;exact ⟨_,by simp [Builtin.firstCells];rfl⟩
    ·cases hs;exact ⟨_,by simp [Builtin.firstCells];rfl⟩
    ·cases hs;exact ⟨_,by simp [Builtin.firstCells,zero];rfl⟩
    ·cases hs;exact ⟨_,by simp [Builtin.firstCells,zero];rfl⟩
   obtain ⟨us,GU⟩:=QD;refine ⟨.int .i64 0,w,?_,.int _ _,hg,Ext.refl _ _ _⟩;simp [Builtin.copy_,run_underlying hu,hlen,hz,GU,goInt]
  ·rename_i b off len s';split at ha
   ·rename_i ei;subst ei;split at ha
    ·rename_i new jL;split at ha
     ·rename_i cs ho;split at ha
      ·rename_i hc;cases ha;simp only [and_eq_true,decide_eq_true_eq] at hc;obtain ⟨⟨K5,K6⟩,Kv⟩:=hc;obtain ⟨us,q1,q2,q3,q4⟩:=m8 (P:=P) hg hs hm (Nat.min_le_left m len) jL;cases hd;rename_i cap a k hk hle K4;by_cases h0:cap=0
       ·subst h0;obtain rfl:len=0:=by omega
        have GU:us = #[]:=by
         have:=q2.len;simp only [Array.length_toList] at this;apply Array.eq_empty_of_size_eq_zero;rw [<- this,Kv];simp
        subst GU;have K7:=q2.len;simp at K7;subst K7;have Td:h.set b (.cells (ct cs off []))=h.set b (.cells cs):=rfl;obtain ⟨vs,el,fr,o1,o2,o3,o4,o5⟩:=hg.obj b k _ hk ho;obtain ⟨g1,g2⟩:=hg.set hk ho (by simp) (.cells cs) (.cells vs el fr) ⟨vs,el,fr,rfl,o2,o3,o4,o5⟩;rw [pF o1] at g1 g2;refine ⟨.int .i64 (Nat.min m 0),w,?_,.int _ _,g1,g2⟩;simp [Builtin.copy_,run_underlying hu,q3,hz,goInt,storeCells];have:=q1 w rfl;simp at this;simp [this,storeCells]
       ·obtain ⟨rfl,hin⟩:=K4 h0;have hlen:us.size=Nat.min m len*i.1:=by have:=q2.len;simp only [Array.length_toList] at this;omega
        obtain ⟨vs,el,fr,o1,o2,o3,o4,o5⟩:=CZ (hg.obj b k _ hk ho) q2 off (by rw [Kv];exact K6);have pG:=jh (P:=P) k.c (k.base+off) el fr us.toList 0 vs w o1 o3 (by simp only [Array.length_toList,hlen,o2];omega) (q2.l9 K5);rw [Nat.add_zero] at pG;obtain ⟨g1,g2⟩:=hg.set hk ho (by simp) (.cells (ct cs off new)) _ o5;refine ⟨.int .i64 (Nat.min m len),_,?_,.int _ _,g1,g2⟩;have:=q1 w rfl;simp [Builtin.copy_,run_underlying hu,q3,hz,this,pG,goInt]
      ·cases ha
     ·cases ha
    ·cases ha
   ·cases ha
  ·cases ha
theorem eT{r:Nat}{ck:Nat}(ho:w.heap[r]?=some (.map dN ck)):(getObj r).run P w = .ok (.map dN ck) w:=by simp [getObj,Sem.run,ho]
theorem gI{r:Nat}{ck:Nat}(ho:w.heap[r]?=some (.map dN ck))(o:Obj):(setObj r o).run P w = .ok () (eS w r o):=by simp [setObj,Sem.run,ho,eS]
theorem Ae{d:TypeDesc}(hk:VR w0 μ k kv)(hx:VR w0 μ x xv)(h:nH d k x=some true):xv=kv/\x=k/\∀ n,Instr.sameBits n kv kv=true:=by
 unfold nH at h;split at h
 ·rename_i k1 a k2 b';rw [hk.dD,hx.dD];split at h
  ·rename_i e;subst e;simp only [Option.some.injEq,beq_iff_eq] at h;subst h;exact ⟨rfl,rfl,fun n=>by cases n<;>simp [Instr.sameBits]⟩
  ·cases h
 ·obtain ⟨s,rfl,rfl⟩:=hk.ef;obtain ⟨u,rfl,rfl⟩:=hx.ef;simp only [Option.some.injEq,beq_iff_eq] at h
  have:u=s:=by
   obtain ⟨u⟩:=u;obtain ⟨s⟩:=s;congr 1;exact (Array.toList_inj.1 h).symm
  subst this;exact ⟨rfl,rfl,fun n=>by cases n<;>simp [Instr.sameBits,MapKept.bytes_beq]⟩
 ·rw [hk.eH,hx.eH];simp only [Option.some.injEq,beq_iff_eq] at h;subst h;exact ⟨rfl,rfl,fun n=>by cases n<;>simp [Instr.sameBits]⟩
 ·cases h
theorem iW.push{es:List Entry}{dN:Array MapEntry}(h:iW w0 μ es dN.toList){k v:AV}{kv vv:Value}{n:Nat}(hk:VR w0 μ k kv)(hv:VR w0 μ v vv) :
  iW w0 μ (es++[(k,v,n)]) (dN.push { key:=kv,val:=vv,born:=n }).toList:=by
 refine ⟨by simp [h.len],fun i k' v' n' hi=>?_⟩;have hlen:dN.toList.length=es.length:=h.len;rw [Array.toList_push];by_cases e:i<es.length
 ·rw [getElem?_append_left e] at hi;rw [getElem?_append_left (by omega)];exact h.rel i k' v' n' hi
 ·have hi0:i=es.length:=by
   have:=(fR.1 hi).1;simp at this;omega
  subst hi0;rw [getElem?_append_right (dR _)] at hi;simp only [Nat.sub_self,getElem?_cons_zero,Option.some.injEq,Prod.mk.injEq] at hi;obtain ⟨rfl,rfl,rfl⟩:=hi;refine ⟨{ key:=kv,val:=vv,born:=n },?_,hk,hv,rfl⟩;rw [<- hlen,getElem?_append_right (dR _)];simp
theorem iW.modify{es:List Entry}{dN:Array MapEntry}(h:iW w0 μ es dN.toList){j:Nat}{k v:AV}{kv vv:Value}{n:Nat}(hj:es[j]?=some (k,v,n)){v':AV}(hk:VR w0 μ k kv)(hv:VR w0 μ v' vv)(f:MapEntry->MapEntry)
  (hf:∀ e:MapEntry,(f e).key=kv\/(f e).key=e.key) (QE:∀ e:MapEntry,(f e).val=vv) (QF:∀ e:MapEntry,(f e).born=e.born) :
  iW w0 μ (cX es j v') (dN.modify j f).toList:=by
 have hs:cX es j v'=es.set j (k,v',n):=by simp [cX,hj]
 rw [hs];refine ⟨by simpa using h.len,fun i k1 v1 n1 hi=>?_⟩;rw [getElem?_set] at hi;rw [Array.getElem?_toList,Array.getElem?_modify];split at hi
 ·rename_i e;subst e;have DP:=(fR.1 hj).1;rw [if_pos DP] at hi;cases hi;obtain ⟨e,h1,h2,h3,h4⟩:=h.rel j k v n hj;rw [Array.getElem?_toList] at h1;refine ⟨f e,by simp [h1],?_,by rw [QE];exact hv,by rw [QF];exact h4⟩;rcases hf e with q|q
  ·rw [q];exact hk
  ·rw [q];exact h2
 ·rename_i e;rw [if_neg e];have:=h.rel i k1 v1 n1 hi
  rwa [Array.getElem?_toList] at this
theorem qT{es:List Entry}(h:iW w0 μ es dN.toList){bk:Bool}(ck:Nat)(k:yM):iV bk w0 μ (.map es ck) k (some (.map dN ck)):=
 ⟨dN,rfl,by simpa using h.len,fun i k v n hi=>by simpa using h.rel i k v n hi⟩
theorem nJ(hg:Good w0 μ h w){o:TypeDesc×TypeId}(hi:zT P t=some o)(hm:VR w0 μ m mv)(hk:VR w0 μ k kv)(hx:VR w0 μ x xv)(ha:cF o.1 m k x h=some h') :
  ∃ w',(Instr.mapUpdate t mv kv xv).run P w = .ok () w'/\Good w0 μ h' w'/\Ext μ h w μ h' w':=by
 obtain ⟨kt,hu,hd⟩:=m7 hi;unfold cF at ha;split at ha
 ·rename_i b;split at ha
  ·rename_i es ck ho;cases hm;rename_i kk hkk;obtain ⟨dN,h1,h2⟩:=hg.map hkk ho;split at ha
   ·rename_i j v hf;cases ha;obtain ⟨yR,xK⟩:=fV hf;obtain ⟨r',h3,h4⟩:=gS hk es dN.toList 0 _ h2 xK;rcases h4 with ⟨a,_⟩|⟨j',Jd,vc,a,rfl,h5,_,⟨ek,ev,en⟩,Jh,M6,M7⟩
    ·cases a
    ·cases a;simp only [Nat.sub_zero] at Jh;obtain ⟨c,c1,c2,c3,c4⟩:=h2.rel _ _ _ _ Jh;rw [Array.getElem?_toList] at c1;obtain ⟨e1,e2,e3⟩:=Ae hk c2 M7;have KX:=run_checkKey (w:=w) hd hk yR false 9999;have nx:(Instr.checkKey false 10000 kt kv).run P w = .ok () w:=KX;have CX:=run_findKey (w:=w) hd h3;have Af:=h2.modify Jh c2 hx (fun e=>{ e with key:=kv,val:=xv }) (fun e=>.inl e1.symm) (fun _=>rfl) (fun _=>rfl);obtain ⟨g1,g2⟩:=hg.set hkk ho (by simp) (.map (cX es j x) ck) _ (qT Af ck kk);refine ⟨_,?_,g1,g2⟩;have wM:(Instr.keyThatStays kv kv).run P w = .ok kv w:=by simp [Instr.keyThatStays,e3]
     have GB:∀ z,((dN[j]?.map (·.key)).getD z)=kv:=fun z=>by simp [c1,e1]
     simp only [Instr.mapUpdate,Sem.run_bind,run_underlying hu,Result.andThen_ok,eT h1,nx,CX,GB,wM,gI h1]
   ·rename_i hf;cases ha;obtain ⟨yR,xK⟩:=fV hf;obtain ⟨r',h3,h4⟩:=gS hk es dN.toList 0 _ h2 xK;rcases h4 with ⟨_,rfl⟩|⟨j',Jd,vc,a,_⟩
    ·have nx:(Instr.checkKey false 10000 kt kv).run P w = .ok () w:=run_checkKey (w:=w) hd hk yR false 9999;have CX:=run_findKey (w:=w) hd h3;obtain ⟨g1,g2⟩:=hg.set hkk ho (by simp) (.map (es++[(k,x,ck)]) (ck+1)) _ (qT (h2.push (n:=ck) hk hx) (ck+1) kk);refine ⟨_,?_,g1,g2⟩;simp only [Instr.mapUpdate,Sem.run_bind,run_underlying hu,Result.andThen_ok,eT h1,nx,CX,gI h1]
    ·cases a
   ·cases ha
  ·cases ha
 ·cases ha
theorem yT(hg:Good w0 μ h w){o:TypeDesc×AV}(hi:kP P t=some o){v:AV}(hm:VR w0 μ m mv)(hk:VR w0 μ k kv)(ha:qK o.1 o.2 m k h=some (v,h')) :
  ∃ vc w',(Instr.mapEntry t mv kv).run P w = .ok vc w'/\VR w0 μ v vc/\Good w0 μ h' w'/\Ext μ h w μ h' w':=by
 unfold kP at hi;split at hi
 ·rename_i d et MX;split at hi
  ·rename_i z hz;cases hi;obtain ⟨kt,hu,hd⟩:=m7 MX;obtain ⟨inf,zv,eV,z7,rfl⟩:=iD hz;have hz0:=gC (P:=P) eV z7 w;unfold qK at ha;split at ha
   ·rename_i b;split at ha
    ·rename_i es ck ho;cases hm;rename_i kk hkk;obtain ⟨dN,h1,h2⟩:=hg.map hkk ho;split at ha
     ·rename_i j v' hf;cases ha;obtain ⟨yR,xK⟩:=fV hf;obtain ⟨r',h3,h4⟩:=gS hk es dN.toList 0 _ h2 xK;rcases h4 with ⟨a,_⟩|⟨j',Jd,vc,a,rfl,h5,_,⟨ek,ev,en⟩,Jh,M6,M7⟩
      ·cases a
      ·cases a;simp only [Nat.sub_zero] at Jh;obtain ⟨c,c1,c2,c3,c4⟩:=h2.rel _ _ _ _ Jh;rw [Array.getElem?_toList] at c1;obtain ⟨e1,e2,e3⟩:=Ae hk c2 M7;have nx:(Instr.checkKey false 10000 kt kv).run P w = .ok () w:=run_checkKey (w:=w) hd hk yR false 9999;have CX:=run_findKey (w:=w) hd h3
       have K8:dN.modify j (fun e=>{ e with key:=kv })=dN:=by
        apply Array.ext_getElem?;intro i;rw [Array.getElem?_modify];split
        ·rename_i e;subst e;rw [c1];simp [<- e1]
        ·rfl
       have wM:(Instr.keyThatStays kv kv).run P w = .ok kv w:=(by simp [Instr.keyThatStays,e3]);have GB:∀ z,((dN[j]?.map (·.key)).getD z)=kv:=fun z=>by simp [c1,e1]
       have K9:BH es j=en:=(by simp [BH,Jh]);refine ⟨.tuple #[vc,goInt en],w,?_,?_,hg,Ext.refl _ _ _⟩
       ·have hb2:(((dN[j]?).map (fun x=>(x.born:Int))).getD 0)=en:=by simp [c1,c4]
        simp only [Instr.mapEntry,Sem.run_bind,run_underlying hu,Result.andThen_ok,eT h1,nx,CX,GB,wM,K8,gI h1,Sem.run_pure,pF h1,hb2]
       ·rw [K9];exact cj.tuple (.cons h5 (.cons (.int _ _) .nil))
     ·rename_i hf;cases ha;obtain ⟨yR,xK⟩:=fV hf;obtain ⟨r',h3,h4⟩:=gS hk es dN.toList 0 _ h2 xK;rcases h4 with ⟨_,rfl⟩|⟨j',Jd,vc,a,_⟩
      ·have nx:(Instr.checkKey false 10000 kt kv).run P w = .ok () w:=run_checkKey (w:=w) hd hk yR false 9999;have CX:=run_findKey (w:=w) hd h3;obtain ⟨g1,g2⟩:=hg.set hkk ho (by simp) (.map (es++[(k,ofConst zv,ck)]) (ck+1)) _ (qT (h2.push (n:=ck) hk (VR.ofConst zv)) (ck+1) kk);refine ⟨.tuple #[zv,goInt ck],_,?_,cj.tuple (.cons (VR.ofConst zv) (.cons (.int _ _) .nil)),g1,g2⟩;simp only [Instr.mapEntry,Sem.run_bind,run_underlying hu,Result.andThen_ok,eT h1,nx,CX,gI h1,hz0,Sem.run_pure]
      ·cases a
     ·cases ha
    ·cases ha
   ·cases ha
  ·cases hi
 ·cases hi
theorem pH{n:Int}:∀ (es:List Entry) (dN:List MapEntry) (i j:Nat),iW w0 μ es dN->oY n es i=some j->∃ m,j=i+m/\dN.findIdx? (fun e=>(e.born:Int)==n)=some m/\∃ e,es[m]?=some e
 |[],dN,i,j,h,hf=>by cases hf
 |(k,v,b) :: es,dN,i,j,h,hf=>by
  obtain ⟨e,wL,rfl,h1,h2,h3,h4⟩:=h.cons_inv;simp only [oY] at hf;split at hf
  ·rename_i hb;cases hf;exact ⟨0,rfl,by simp [findIdx?_cons,h3,hb],_,rfl⟩
  ·rename_i hb;obtain ⟨m,rfl,q,e',GV⟩:=pH es wL (i+1) j h4 hf;refine ⟨m+1,by omega,?_,e',by simpa using GV⟩;simp [findIdx?_cons,h3,hb,q]
theorem uO(hg:Good w0 μ h w){s:AV}{sv:Value}(hm:VR w0 μ m mv)(hs:VR w0 μ s sv)(hx:VR w0 μ x xv)(ha:lY m s x h=some h') :
  ∃ w',(Instr.entryStore t mv sv xv).run P w = .ok () w'/\Good w0 μ h' w'/\Ext μ h w μ h' w':=by
 unfold lY at ha;split at ha
 ·rename_i b kk n;split at ha
  ·rename_i es ck ho;split at ha
   ·rename_i j hf;cases ha;cases hm;rename_i bk hkk;rw [hs.dD];obtain ⟨dN,h1,h2⟩:=hg.map hkk ho;obtain ⟨m,rfl,q,⟨ek,ev,en⟩,he⟩:=pH es dN.toList 0 j h2 hf;rw [Nat.zero_add]
    have hq:dN.findIdx? (fun e=>(e.born:Int)==n)=some m:=by
     cases dN;simpa using q
    obtain ⟨c,c1,c2,c3,c4⟩:=h2.rel _ _ _ _ he;have Af:=h2.modify he c2 hx (fun e=>{ e with val:=xv }) (fun e=>.inr rfl) (fun _=>rfl) (fun _=>rfl);obtain ⟨g1,g2⟩:=hg.set hkk ho (by simp) (.map (cX es m x) ck) _ (qT Af ck bk);refine ⟨_,?_,g1,g2⟩;have M8:(asInt (.int kk n)).run P w = .ok n w:=by simp [asInt,asIntOf]
    simp only [Instr.entryStore,Sem.run_bind,Result.andThen_ok,eT h1,M8,hq,gI h1]
   ·cases ha
  ·cases ha
 ·cases ha
theorem iW.erase{es:List Entry}(h:iW w0 μ es dN.toList)(j:Nat):iW w0 μ (es.eraseIdx j) (dN.eraseIdxIfInBounds j).toList:=by
 have hlen:dN.toList.length=es.length:=h.len;have e:(dN.eraseIdxIfInBounds j).toList=dN.toList.eraseIdx j:=by simp
 rw [e];refine ⟨by rw [length_eraseIdx,length_eraseIdx,hlen],fun i k v n hi=>?_⟩;rw [getElem?_eraseIdx] at hi ⊢;split at hi
 ·rename_i hlt;rw [if_pos hlt];exact h.rel i k v n hi
 ·rename_i hlt;rw [if_neg hlt];exact h.rel (i+1) k v n hi
theorem B2(hg:Good w0 μ h w){ty:TypeId}{ts:List TypeId}{o:TypeDesc×TypeId}(hi:zT P t=some o)(hm:VR w0 μ m mv)(hk:VR w0 μ k kv)(ha:yD o.1 m k h=some h') :
  ∃ w',(Builtin.delete_ (t :: ts).toArray ty #[mv,kv]).run P w = .ok undef w'/\Good w0 μ h' w'/\Ext μ h w μ h' w':=by
 obtain ⟨kt,hu,hd⟩:=m7 hi;unfold yD at ha;split at ha
 ·split at ha
  ·rename_i yR;cases ha;cases hm;have nx:(Instr.checkKey true 10000 kt kv).run P w = .ok () w:=run_checkKey (w:=w) hd hk yR true 9999;exact ⟨w,by simp [Builtin.delete_,run_underlying hu,nx];rfl,hg,Ext.refl _ _ _⟩
  ·cases ha
 ·rename_i b;split at ha
  ·rename_i es ck ho;cases hm;rename_i kk hkk;obtain ⟨dN,h1,h2⟩:=hg.map hkk ho;split at ha
   ·rename_i j v hf;cases ha;obtain ⟨yR,xK⟩:=fV hf;obtain ⟨r',h3,h4⟩:=gS hk es dN.toList 0 _ h2 xK;rcases h4 with ⟨a,_⟩|⟨j',Jd,vc,a,rfl,h5,_⟩
    ·cases a
    ·cases a;have nx:∀ e,(Instr.checkKey e 10000 kt kv).run P w = .ok () w:=fun e=>run_checkKey (w:=w) hd hk yR e 9999;have CX:=run_findKey (w:=w) hd h3;obtain ⟨g1,g2⟩:=hg.set hkk ho (by simp) (.map (es.eraseIdx j) ck) _ (qT (h2.erase j) ck kk);refine ⟨_,?_,g1,g2⟩;simp [Builtin.delete_,run_underlying hu,eT h1,nx,CX,gI h1];rfl
   ·rename_i hf;cases ha;obtain ⟨yR,xK⟩:=fV hf;obtain ⟨r',h3,h4⟩:=gS hk es dN.toList 0 _ h2 xK;rcases h4 with ⟨_,rfl⟩|⟨j',Jd,vc,a,_⟩
    ·have nx:∀ e,(Instr.checkKey e 10000 kt kv).run P w = .ok () w:=fun e=>run_checkKey (w:=w) hd hk yR e 9999;have CX:=run_findKey (w:=w) hd h3;obtain ⟨g1,g2⟩:=hg.set hkk ho (by simp) (.map es ck) _ (qT h2 ck kk);refine ⟨_,?_,g1,g2⟩;simp [Builtin.delete_,run_underlying hu,eT h1,nx,CX,gI h1];rfl
    ·cases a
   ·cases ha
  ·cases ha
 ·cases ha
end
end Go.AM
namespace Go.AM
open List Nat Bool Option
open Go Go.RowKit
variable {xv:Value} {x v:AV}
section
variable {P:Program} {w0 w:World} {μ:Mu} {h:Heap} {ρ:Operand->AV} {ρc:Operand->Value}
theorem si:∀ (cs:List AV) (bs:List UInt8) (us:List Value),bytesOf cs=some bs->cj w0 μ cs us->∃ ns:List Int,us=ns.map (Value.int .u8)/\ns.map (fun n=>UInt8.ofNat n.toNat)=bs
 |[],bs,us,h,hu=>by
  cases h;obtain rfl:=hu.ee;exact ⟨[],rfl,rfl⟩
 |c :: cs,bs,us,h,hu=>by
  unfold bytesOf at h;split at h
  ·rename_i h0;cases h0
  ·rename_i n l heq;cases heq;obtain ⟨u,us,rfl,h1,h2⟩:=hu.cons_inv;split at h
   ·rename_i OP hb;cases h;obtain ⟨ns,rfl,e⟩:=si cs OP us hb h2;exact ⟨n :: ns,by rw [h1.dD];rfl,by simp [e]⟩
   ·cases h
  ·cases h
theorem foldl_push(ns:List Int):∀ s:ByteArray,(ns.foldl (fun r n=>r.push (UInt8.ofNat n.toNat)) s).data.toList=s.data.toList++ns.map (fun n=>UInt8.ofNat n.toNat):=by
 induction ns with
 |nil=>intro s;simp
 |cons n ns ih=>intro s;rw [foldl_cons,ih];simp [ByteArray.push]
theorem sj(hg:Good w0 μ h w){src dst e:TypeId}(hs:P.underlying src=some (.slice e))(he:P.underlying e=some (.int .u8))(hd:P.underlying dst=some .string)(hx:VR w0 μ x xv){n:Nat}
  (hn:iB x=some n) {cs:List AV} (hf:fM 1 n x h=some cs) {bs:List UInt8} (hb:bytesOf cs=some bs) (GA:∀ s,x≠.str s) :
  ∃ s:ByteArray,(convert src dst xv).run P w = .ok (.string s) w/\s.data.toList=bs:=by
 obtain ⟨us,q1,q2,q3,q4⟩:=m8 (P:=P) hg hx hn (dR n) hf;obtain ⟨ns,e1,e2⟩:=si _ _ _ hb q2
 have key:∀ (a:Option Addr) (l c:Nat),xv = .slice a l c->∃ s:ByteArray,(convert src dst xv).run P w = .ok (.string s) w/\s.data.toList=bs:=by
  intro a l c GW;subst GW;rw [run_convert_bytes_string w src dst e a l c hs he hd]
  cases a with
  |none=>
   refine ⟨.empty,by simp [Conv.bytesToString],?_⟩;have:=q1 w rfl;simp [Builtin.firstCells] at this;subst this;simp at e1;subst e1;simpa using e2
  |some a=>
   have h1:=q1 w rfl;have h2:=q3 w;simp [Builtin.lenOf] at h2;subst h2;simp [Builtin.firstCells] at h1;refine ⟨_,run_bytesToString w a l c ns (by rw [h1];congr 1;apply Array.ext';simpa using e1),?_⟩;rw [foldl_push];simpa using e2
 cases x<;>simp only [iB,reduceCtorEq] at hn
 ·exact absurd rfl (GA _)
 ·cases hx;exact key _ _ _ rfl
 ·cases hx;exact key _ _ _ rfl
 ·cases hx;exact key _ _ _ rfl
theorem Ag(hg:Good w0 μ h w){src dst:TypeId}{i:EW}(hi:uv P src dst=some i)(hx:VR w0 μ x xv){h':Heap}(ha:fC i x h=some (v,h')) :
  ∃ vc w' μ',(convert src dst xv).run P w = .ok vc w'/\VR w0 μ' v vc/\Good w0 μ' h' w'/\Ext μ h w μ' h' w':=by
 unfold uv at hi;split at hi
 ·rename_i k1 k hs hd;cases hi;cases x<;>simp only [fC,reduceCtorEq,Option.some.injEq,Prod.mk.injEq] at ha;obtain ⟨rfl,rfl⟩:=ha;rw [hx.dD];exact ⟨_,w,μ,by simp [convert,run_underlying hs,run_underlying hd,Conv.intToInt],.int _ _,hg,Ext.refl _ _ _⟩
 ·rename_i hs hd;cases hi;cases x<;>simp only [fC,reduceCtorEq,Option.some.injEq,Prod.mk.injEq] at ha;obtain ⟨rfl,rfl⟩:=ha;obtain ⟨s,rfl,rfl⟩:=hx.ef;exact ⟨_,w,μ,by simp [convert,run_underlying hs,run_underlying hd],.str _,hg,Ext.refl _ _ _⟩
 ·rename_i e hs hd;split at hi
  ·rename_i he hsz;cases hi;cases x<;>simp only [fC,reduceCtorEq] at ha;split at ha
   ·rename_i hm;cases ha;obtain ⟨s,rfl,rfl⟩:=hx.ef;have Mt:Good w0 μ h w.drew:=hg.same rfl rfl rfl rfl;have Kt:s.data.toList.length=s.size:=by rw [Array.length_toList];rfl
    have B0:s.size<=grownCap w s.size 0 e:=by
     unfold grownCap;show s.size<=s.size+_;omega
    have hbs:(bytesRow s (grownCap w s.size 0 e)).size=grownCap w s.size 0 e:=by
     have:s.data.size=s.size:=rfl;simp [bytesRow,this];omega
    have qS:iV h.bk w0 μ (.cells (s.data.toList.map fun b=>.int .u8 (b.toNat:Int))) ⟨w.heap.size,0,grownCap w s.size 0 e⟩
      (some (.cells (bytesRow s (grownCap w s.size 0 e)) e ((bytesRow s (grownCap w s.size 0 e)).size,(bytesRow s (grownCap w s.size 0 e)).size+1))):=by
     refine ⟨_,e,_,rfl,hbs,by simp [Kt];exact B0,.inr ⟨hm.1,by simp [hbs]⟩,fun j y hj=>?_⟩;rw [getElem?_map] at hj;obtain ⟨b,hb,rfl⟩:=map_eq_some_iff.1 hj;refine ⟨.int .u8 b.toNat,?_,.int _ _⟩;have hlt:=(fR.1 hb).1;show (bytesRow s _)[0+j]?=_;rw [Nat.zero_add];unfold bytesRow;rw [Array.getElem?_append_left (by simpa using hlt),Array.getElem?_map,<- Array.getElem?_toList,hb];rfl
    obtain ⟨g1,g2⟩:=Mt.alloc _ _ _ qS;refine ⟨_,_,_,run_bytes_of_string w src dst e s hs hd he,?_,g1,Ext.of_same (v:=w.drew) rfl g2⟩;rw [Kt];exact .slice h.next 0 s.size 1 _ ⟨w.heap.size,0,none⟩ ⟨w.heap.size,0,grownCap w s.size 0 e⟩ (Mu.add_same _ _ _) B0 (fun _=>⟨rfl,by simp⟩)
   ·cases ha
  ·cases hi
 ·rename_i e hs hd;split at hi
  ·rename_i he;cases hi;unfold fC at ha;split at ha<;>first|(rename_i h0;cases h0;done)|skip
   all_goals first
    |(rename_i h0 h1;cases h0;done)
    |skip
   ·cases ha;cases hx;rw [run_convert_bytes_string w src dst e none 0 0 hs he hd];exact ⟨.string .empty,w,μ,by simp [Conv.bytesToString],.str .empty,hg,Ext.refl _ _ _⟩
   ·split at ha
    ·rename_i cs hf;split at ha
     ·rename_i bs hb;cases ha;obtain ⟨s,h1,h2⟩:=sj hg hs he hd hx rfl hf hb (by simp);exact ⟨_,w,μ,h1,h2▸.str s,hg,Ext.refl _ _ _⟩
     ·cases ha
    ·cases ha
   ·split at ha
    ·rename_i cs hf;split at ha
     ·rename_i bs hb;cases ha;obtain ⟨s,h1,h2⟩:=sj hg hs he hd hx rfl hf hb (by simp);exact ⟨_,w,μ,h1,h2▸.str s,hg,Ext.refl _ _ _⟩
     ·cases ha
    ·cases ha
   ·cases ha
  ·cases hi
 ·cases hi
theorem DQ(hg:Good w0 μ h w){t:TypeId}{i:BI}(hi:BK P t=some i)(hx:VR w0 μ x xv){h':Heap}(ha:nV i x h=some (v,h')) :
  ∃ vc w' μ',(Instr.range t xv).run P w = .ok vc w'/\VR w0 μ' v vc/\Good w0 μ' h' w'/\Ext μ h w μ' h' w':=by
 have key:∀ (o:gh) (O:Obj),(∀ n,iV h.bk w0 μ o ⟨w.heap.size,0,n⟩ (some O))->(v,h')=(AV.ptr h.next 0,h.alloc o) ->
   ∃ μ',VR w0 μ' v (.pointer (some ⟨w.heap.size,0,none⟩))/\Good w0 μ' h' (w.alloc O)/\Ext μ h w μ' h' (w.alloc O):=by
  intro o O hr he;cases he;obtain ⟨g1,g2⟩:=hg.alloc o O 0 (hr 0);exact ⟨_,.ptr h.next 0 ⟨w.heap.size,0,0⟩ (Mu.add_same _ _ _),g1,g2⟩
 unfold BK at hi;split at hi
 ·rename_i hu;cases hi;cases x<;>simp only [nV,reduceCtorEq,Option.some.injEq] at ha;obtain ⟨s,rfl,rfl⟩:=hx.ef;obtain ⟨μ',a,b,c⟩:=key (.uk s.data.toList 0) (.stringIter s 0) (fun n=>⟨rfl,s,rfl,rfl⟩) ha.symm;exact ⟨_,_,μ',by simp [Instr.range,run_underlying hu],a,b,c⟩
 ·rename_i k e hu;cases hi;cases x<;>simp only [nV,reduceCtorEq,Option.some.injEq] at ha
  ·cases hx;obtain ⟨μ',a,b,c⟩:=key (.dX none 0 [] 0) (.mapIter none 0 #[] 0) (fun n=>⟨rfl,none,rfl,rfl⟩) ha.symm;exact ⟨_,_,μ',by simp [Instr.range,run_underlying hu],a,b,c⟩
  ·rename_i m;split at ha
   ·rename_i es ck ho;cases hx;rename_i kk hkk;obtain ⟨dN,h1,h2⟩:=hg.map hkk ho;simp only [Option.some.injEq] at ha;obtain ⟨μ',a,b,c⟩:=key (.dX (some m) ck [] ck) (.mapIter (some kk.c) ck #[] ck) (fun n=>⟨rfl,some kk.c,rfl,kk,hkk,rfl⟩) ha.symm;exact ⟨_,_,μ',by simp [Instr.range,run_underlying hu,eT h1],a,b,c⟩
   ·cases ha
 ·cases hi
theorem lN{n:Nat}:∀ (es:List Entry) (dN:List MapEntry) (e:Entry),iW w0 μ es dN->gQ n es=some e->∃ c,dN.find? (·.born==n)=some c/\VR w0 μ e.1 c.key/\VR w0 μ e.2.1 c.val
 |[],dN,e,h,hf=>by cases hf
 |(k,v,b) :: es,dN,e,h,hf=>by
  obtain ⟨c,wL,rfl,h1,h2,h3,h4⟩:=h.cons_inv;simp only [gQ] at hf;split at hf
  ·rename_i hb;cases hf;exact ⟨c,by simp [find?_cons,h3,hb],h1,h2⟩
  ·rename_i hb;obtain ⟨c',q,a,b⟩:=lN es wL e h4 hf;refine ⟨c',?_,a,b⟩;have:(c.born==n)=false:=by simp [h3,hb]
   simp [find?_cons,this,q]
theorem DR(hg:Good w0 μ h w)(hx:VR w0 μ x xv)(ha:qL x h=some v):∃ vc,(Instr.entry xv).run P w = .ok vc w/\VR w0 μ v vc:=by
 unfold qL at ha;split at ha
 ·rename_i r;split at ha
  ·rename_i m since seen st ho;split at ha
   ·rename_i CO es ck hl hm;split at ha
    ·rename_i KX;split at ha
     ·rename_i e he;cases ha;cases hx;rename_i k hk;obtain ⟨r0,rr,r1,km,Mv,rfl⟩:=hg.obj r k _ hk ho;obtain ⟨dN,c1,c2⟩:=hg.map Mv hm;obtain ⟨c,d1,d2,d3⟩:=lN es dN.toList e c2 he;have hf:dN.find? (·.born==CO)=some c:=by cases dN;simpa using d1
      have C5:seen.toArray.back?=some CO:=(by simpa using hl);have xJ:(getObj k.c).run P w = .ok (.mapIter (some km.c) since seen.toArray st) w:=by simp [getObj,Sem.run,r1]
      refine ⟨.tuple #[c.key,c.val],?_,cj.tuple (.cons d2 (.cons d3 .nil))⟩;have hne:(ck != st)=false:=by simp [KX]
      simp only [r0,Nat.zero_add,Nat.add_zero,Instr.entry,Sem.run_bind,Sem.run_pure,xJ,Result.andThen_ok,C5,eT c1,hne,hf,false_eq_true,if_false]
     ·cases ha
    ·cases ha
   ·cases ha
  ·cases ha
 ·cases ha
end
end Go.AM
namespace Go.AM
open List Nat Bool Option
open Go Go.RowKit
section
variable {P:Program} {w0 w:World} {μ:Mu} {h:Heap} {ρ:Operand->AV} {ρc:Operand->Value}
def Iy(w0:World)(μ:Mu)(h:Heap)(w:World)(L:List (AV×Heap))(r:Result Value):Prop:=
 ∃ p vc w' μ',p ∈ L/\r = .ok vc w'/\VR w0 μ' p.1 vc/\Good w0 μ' p.2 w'/\Ext μ h w μ' p.2 w'
theorem iW.mj:∀ (es:List Entry) (dN:List MapEntry),iW w0 μ es dN->∃ L:List (Entry×MapEntry),es=L.map (·.1)/\dN=L.map (·.2)/\∀ p ∈ L,VR w0 μ p.1.1 p.2.key/\VR w0 μ p.1.2.1 p.2.val/\p.2.born=p.1.2.2
 |[],dN,h=>by obtain rfl:=h.ee;exact ⟨[],rfl,rfl,by simp⟩
 |(k,v,n) :: es,dN,h=>by
  obtain ⟨e,wL,rfl,h1,h2,h3,h4⟩:=h.cons_inv;obtain ⟨L,rfl,rfl,hL⟩:=iW.mj es wL h4;refine ⟨((k,v,n),e) :: L,rfl,rfl,fun p hp=>?_⟩;rcases mem_cons.1 hp with rfl|hp
  ·exact ⟨h1,h2,h3⟩
  ·exact hL p hp
theorem oe{α β:Type}(L:List (α×β))(p:α->Bool)(q:β->Bool)(h:∀ x ∈ L,q x.2=p x.1):(L.map (·.2)).filter q=(L.filter fun x=>p x.1).map (·.2):=by
 rw [List.filter_map];congr 1;apply filter_congr;intro x hx;exact h x hx
theorem B3{α β:Type}(L:List (α×β))(p:α->Bool):(L.map (·.1)).filter p=(L.filter fun x=>p x.1).map (·.1):=by rw [List.filter_map];rfl
theorem DS(L:List (Entry×MapEntry))(hL:∀ p ∈ L,p.2.born=p.1.2.2)(since:Nat)(seen:List Nat) :
  ∃ C:List (Option (Entry×MapEntry)),lZ (L.map (·.1)) since seen=C.map (Option.map (·.1))/\C≠[]/\(∀ p,some p ∈ C->p ∈ L) /\
   (let left:=(L.map (·.2)).toArray.filter fun e=>!seen.toArray.contains e.born
    let old:=left.filter (·.born<since)
    let new:=left.filter (·.born>=since)
    (if old.isEmpty then #[none] else #[])++(old++new).map some)=(C.map (Option.map (·.2))).toArray:=by
 let l0:=L.filter fun x=>!seen.contains x.1.2.2
 let o:=l0.filter fun x=>decide (x.1.2.2<since)
 let n:=l0.filter fun x=>decide (x.1.2.2>=since)
 have m0:∀ p ∈ l0,p ∈ L:=fun p hp=>(mem_filter.1 hp).1;refine ⟨(if o.isEmpty then [none] else [])++(o++n).map some,?_,?_,?_,?_⟩
 ·unfold lZ;simp only [B3];have he:((o.map (·.1)).isEmpty)=o.isEmpty:=by simp
  show (if (o.map (·.1)).isEmpty then [none] else [])++(o.map (·.1)++n.map (·.1)).map some=_;rw [he];cases o.isEmpty<;>simp<;>rfl
 ·by_cases h:o.isEmpty=true
  ·simp [h]
  ·simp only [h,false_eq_true,if_false,nil_append,ne_eq,map_eq_nil_iff,append_eq_nil_iff,_root_.not_and];intro h1;simp [h1] at h
 ·intro p hp;simp only [mem_append,mem_map,Option.some.injEq,exists_eq_right] at hp;rcases hp with hp|hp|hp
  ·split at hp
   ·simp at hp
   ·simp at hp
  ·exact m0 p (mem_filter.1 hp).1
  ·exact m0 p (mem_filter.1 hp).1
 ·have e0:((L.map (·.2)).toArray.filter fun e=>!seen.toArray.contains e.born)=(l0.map (·.2)).toArray:=by
   simp only [filter_toArray];congr 1;exact oe L (fun e=>!seen.contains e.2.2) _ (fun x hx=>by simp [hL x hx])
  have e1:((l0.map (·.2)).toArray.filter (·.born<since))=(o.map (·.2)).toArray:=by
   simp only [filter_toArray];congr 1;exact oe l0 (fun e=>decide (e.2.2<since)) _ (fun x hx=>by simp [hL x (m0 x hx)])
  have e2:((l0.map (·.2)).toArray.filter (·.born>=since))=(n.map (·.2)).toArray:=by
   simp only [filter_toArray];congr 1;exact oe l0 (fun e=>decide (e.2.2>=since)) _ (fun x hx=>by simp [hL x (m0 x hx)])
  simp only [e0,e1,e2];have he:((o.map (·.2)).toArray.isEmpty)=o.isEmpty:=by cases o<;>rfl
  rw [he];cases o.isEmpty<;>simp<;>rfl
theorem Fi(hg:Good w0 μ h w){x:AV}{xv:Value}(hx:VR w0 μ x xv){OQ:Bool}{L:List (AV×Heap)}(hn:uq OQ x h=some L)(ty:TypeId):Iy w0 μ h w L ((Instr.next xv OQ ty).run P w):=by
 unfold uq at hn;split at hn
 ·rename_i r;cases hx;rename_i k hk
  have one:∀ {p:AV×Heap} {r:Result Value},(∃ vc w' μ',r = .ok vc w'/\VR w0 μ' p.1 vc/\Good w0 μ' p.2 w'/\Ext μ h w μ' p.2 w')->Iy w0 μ h w [p] r:=
   fun ⟨vc,w',μ',a,b,c,d⟩=>⟨_,vc,w',μ',by simp,a,b,c,d⟩
  split at hn
  ·rename_i s pos ho;obtain ⟨r0,s',r1,rfl⟩:=hg.obj r k _ hk ho;have xJ:(getObj k.c).run P w = .ok (.stringIter s' pos) w:=by simp [getObj,Sem.run,r1]
   have La:∀ O,(setObj k.c O).run P w = .ok () (eS w k.c O):=fun O=>by simp [setObj,Sem.run,r1,eS]
   have Kt:s'.data.toList.length=s'.size:=by rw [Array.length_toList];rfl
   split at hn
   ·rename_i hlt;cases hn;rw [Kt] at hlt;apply one;have ei:(⟨s'.data.toList.toArray⟩:ByteArray)=s':=by cases s';simp
    rw [ei];obtain ⟨g1,g2⟩:=hg.set hk ho (by simp) (.uk s'.data.toList (pos+(Utf8.decode s' pos).2)) (.stringIter s' (pos+(Utf8.decode s' pos).2)) ⟨r0,s',rfl,rfl⟩;refine ⟨_,_,μ,?_,cj.tuple (.cons (.bool true) (.cons (.int _ _) (.cons (.int _ _) .nil))),g1,g2⟩;simp [Instr.next,r0,xJ,hlt,La,goInt]
   ·rename_i hlt;cases hn;rw [Kt] at hlt;apply one;exact ⟨_,w,μ,by simp [Instr.next,r0,xJ,hlt],cj.tuple (.cons (.bool false) .nil),hg,Ext.refl _ _ _⟩
  ·rename_i x1 x2 x3 ho;cases hn;obtain ⟨r0,rr,r1,rfl⟩:=hg.obj r k _ hk ho;have xJ:(getObj k.c).run P w = .ok (.mapIter none x1 x2.toArray x3) w:=by simp [getObj,Sem.run,r1]
   apply one;exact ⟨_,w,μ,by simp [Instr.next,r0,xJ],cj.tuple (.cons (.bool false) .nil),hg,Ext.refl _ _ _⟩
  ·rename_i m since seen last ho;split at hn
   ·rename_i es ck hm;obtain ⟨r0,rr,r1,km,Mv,rfl⟩:=hg.obj r k _ hk ho;obtain ⟨dN,c1,c2⟩:=hg.map Mv hm;have xJ:(getObj k.c).run P w = .ok (.mapIter (some km.c) since seen.toArray last) w:=by simp [getObj,Sem.run,r1]
    split at hn
    ·cases hn
    ·rename_i Fj;obtain ⟨Lp,rfl,yU,hL⟩:=iW.mj _ _ c2;have QG:dN=(Lp.map (·.2)).toArray:=by apply Array.ext';simpa using yU
     subst QG;obtain ⟨C,C1,C2,C3,C4⟩:=DS Lp (fun p hp=>(hL p hp).2.2) since seen
     have M9:(!seen.toArray.isEmpty&&!(Lp.map (·.2)).toArray.isEmpty&&(Lp.map (·.2)).toArray.all (·.born>=last))=false:=by
      have e1:seen.toArray.isEmpty=seen.isEmpty:=(by cases seen<;>rfl);have e2:(Lp.map (·.2)).toArray.isEmpty=(Lp.map (·.1)).isEmpty:=by cases Lp<;>rfl
      have e3:((Lp.map (·.2)).toArray.all (·.born>=last))=((Lp.map (·.1)).all fun e=>decide (e.2.2>=last)):=by
       simp only [all_toArray,List.all_map];clear hn Fj C1 C3 C4 c1 c2 yU hm e2
       induction Lp with
       |nil=>rfl
       |cons p Lp ih=>
        simp only [all_cons,Function.comp];rw [(hL p (by simp)).2.2];congr 1;exact ih (fun q hq=>hL q (by simp [hq]))
      rw [e1,e2,e3];simpa using Fj
     have hsz:0<C.length:=by cases C with|nil=>exact absurd rfl C2|cons c cs=>simp
     have QH:∃ (j:Nat) (w1:World),j<C.length/\w1.heap=w.heap/\w1.os=w.os/\w1.tape=w.tape/\w1.output=w.output/\(choose (Question.mapNext C.length)).run P w = .ok j w1:=by
      by_cases hf:C.length<=1
      ·exact ⟨0,w,by omega,rfl,rfl,rfl,rfl,by simp [choose,Sem.run,Question.forced,hf]⟩
      ·exact ⟨_,w.drew,mod_lt _ (by omega),rfl,rfl,rfl,rfl,by
        simp only [choose,Sem.run,Question.forced,decide_eq_true_eq,hf,if_false,Question.cut]
        rfl⟩
     obtain ⟨j,w1,hj,q1,q2,q3,q4,hrun⟩:=QH;have OR:Good w0 μ h w1:=hg.same q1 q2 q3 q4;have Lb:∀ {h':Heap} {w':World},Ext μ h w1 μ h' w'->Ext μ h w μ h' w':=fun x=>x.of_same q1
     have C6:L=C.map fun c=>BJ r m since seen ck h (c.map (·.1)):=by
      rw [C1] at hn
      cases C with
      |nil=>exact absurd rfl C2
      |cons c cs=>
       simp only [map_cons,Option.some.injEq] at hn;rw [<- hn];simp
     have Lc:(Instr.next (.pointer (some ⟨k.c,k.base+0,none⟩)) false ty).run P w =
       (match C[j]?.map (Option.map (·.2)) with
        |some (some e)=>.ok (.tuple #[.bool true,e.key,e.val]) (eS w1 k.c (.mapIter (some km.c) since (seen.toArray.push e.born) ck))
        |some none=>.ok (.tuple #[.bool false]) w1
        |none=>.halt (.stuck "Next: no such candidate") w1):=by
      have La:∀ O,(setObj k.c O).run P w1 = .ok () (eS w1 k.c O):=fun O=>by simp [setObj,Sem.run,q1,r1,eS]
      have Na:(C.map (Option.map (·.2))).toArray[j]?=C[j]?.map (Option.map (·.2)):=by simp
      simp only [Instr.next,r0,Nat.zero_add,Nat.add_zero,Sem.run_bind,xJ,Result.andThen_ok,eT c1,M9,false_eq_true,if_false,C4];simp only [List.size_toArray,length_map,hrun,Result.andThen_ok,Na]
      cases C[j]? with
      |none=>simp
      |some c=>cases c with
       |none=>simp
       |some e=>simp [La]
     rw [Lc];have OS:C[j]?=some C[j]:=fc hj;have Fk:C[j] ∈ C:=getElem_mem hj
     cases hc:C[j] with
     |none=>
      rw [OS,hc];refine ⟨(.tuple [.bool false],h),_,w1,μ,?_,rfl,cj.tuple (.cons (.bool false) .nil),OR,Lb (Ext.refl _ _ _)⟩;rw [C6,mem_map];exact ⟨none,hc▸Fk,rfl⟩
     |some e=>
      rw [OS,hc];obtain ⟨v1,v2,v3⟩:=hL e (C3 e (hc▸Fk));obtain ⟨g1,g2⟩:=OR.set hk ho (by simp) (.dX (some m) since (seen++[e.1.2.2]) ck) (.mapIter (some km.c) since (seen.toArray.push e.2.born) ck) ⟨r0,some km.c,by simp [v3],km,Mv,rfl⟩;refine ⟨BJ r m since seen ck h (some e.1),_,_,μ,?_,rfl,cj.tuple (.cons (.bool true) (.cons v1 (.cons v2 .nil))),g1,Lb g2⟩;rw [C6,mem_map];exact ⟨some e,hc▸Fk,rfl⟩
   ·cases hn
  ·cases hn
 ·cases hn
end
end Go.AM
namespace Go.AM
open List Nat Bool Option
open Go Go.RowKit
variable {K:AV->Heap->Bool}
section
variable {P:Program} {w0 w:World} {μ:Mu} {h:Heap} {ρ:Operand->AV} {ρc:Operand->Value}
theorem mo{o:Option (AV×Heap)}(h:nI K o=true):∃ v h',o=some (v,h')/\K v h'=true:=by
 cases o with
 |none=>cases h
 |some p=>exact ⟨p.1,p.2,rfl,h⟩
theorem mq{o:Option Heap}(h:r9 K o=true):∃ h',o=some h'/\K aZ h'=true:=by
 cases o with
 |none=>cases h
 |some p=>exact ⟨p,rfl,h⟩
theorem G0{h0:Heap}{o:Option AV}(h:gw h0 K o=true):∃ v,o=some v/\K v h0=true:=by
 cases o with
 |none=>cases h
 |some p=>exact ⟨p,rfl,h⟩
theorem jy{v:AV}{h':Heap}{s:Sem Value}(hK:K v h'=true)(hx:∃ vc w' μ',s.run P w = .ok vc w'/\VR w0 μ' v vc/\Good w0 μ' h' w'/\Ext μ h w μ' h' w'){s':Sem Next}
  (hs:∀ vc w',s.run P w = .ok vc w'->s'.run P w = .ok (.value vc) w'):Left P w0 μ h w K (s'.run P w):=
 let ⟨vc,w',μ',a,b,c,d⟩:=hx
 ⟨v,h',vc,w',μ',hK,.inl (hs _ _ a),b,c,d⟩
theorem m9{h':Heap}{s:Sem Unit}(hK:K aZ h'=true)(hx:∃ w',s.run P w = .ok () w'/\Good w0 μ h' w'/\Ext μ h w μ h' w'){s':Sem Next}
  (hs:∀ w',s.run P w = .ok () w'->s'.run P w = .ok .skip w'):Left P w0 μ h w K (s'.run P w):=
 let ⟨w',a,c,d⟩:=hx
 ⟨aZ,h',undef,w',μ,hK,.inr ⟨rfl,hs _ a⟩,VR.aZ,c,d⟩
theorem uP{args:Array Operand}{xs:List AV}(hρ:∀ x,VR w0 μ (ρ x) (ρc x))(h:args.toList.map ρ=xs):∃ us:List Value,args.map ρc=us.toArray/\cj w0 μ xs us:=by
 refine ⟨args.toList.map ρc,by apply Array.ext';simp,?_⟩;rw [<- h];exact cj.map _ fun a _=>hρ a
theorem Fl(hg:Good w0 μ h w)(hρ:∀ x,VR w0 μ (ρ x) (ρc x)){c:Call}{dst:Option Tmp}{type:TypeId}{pos:String}{after:Array Edge}{guard:Option (Nat×Bool)}(hk:cO c.callee = .Bw)
  (hh:l6 c P ρ h K=true):Left P w0 μ h w K ((execOp ρc ⟨dst,.call c,type,pos,after,guard⟩).run P w):=by
 obtain ⟨qP,args,ts⟩:=c
 cases qP with
 |value f=>cases hh
 |invoke r m=>cases hh
 |builtin b=>
  simp only [l6] at hh;cases b<;>simp only [cO,reduceCtorEq] at hk<;>simp only [xF,BM,reduceCtorEq,false_eq_true] at hh
  case append=>
   unfold qM at hh;split at hh
   ·rename_i t u s x e1 e2;obtain ⟨i,hi,hh⟩:=cZ hh;obtain ⟨v,h',ha,hK⟩:=mo hh;obtain ⟨us,q1,q2⟩:=uP hρ e2;obtain ⟨sv,Ks,rfl,r1,q3⟩:=q2.cons_inv;obtain ⟨xv,Ld,rfl,r2,q4⟩:=q3.cons_inv;obtain rfl:=q4.ee;have et:ts = #[t,u]:=by apply Array.ext';simpa using e1
    refine jy hK (B1 (ty:=type) hg hi r1 r2 ha) fun vc w' hr=>?_;simp only [execOp,resolve,invoke,builtin,Sem.run_bind,Sem.run_pure,Result.andThen_ok,q1,et,hr]
   ·cases hh
  case copy=>
   unfold yI at hh;split at hh
   ·rename_i t l d s e1 e2;obtain ⟨i,hi,hh⟩:=cZ hh;obtain ⟨v,h',ha,hK⟩:=mo hh;obtain ⟨us,q1,q2⟩:=uP hρ e2;obtain ⟨sv,Ks,rfl,r1,q3⟩:=q2.cons_inv;obtain ⟨xv,Ld,rfl,r2,q4⟩:=q3.cons_inv;obtain rfl:=q4.ee;have et:ts=(t :: l).toArray:=by apply Array.ext';simpa using e1
    obtain ⟨vc,w',a,b,c,d⟩:=Fh (u:=t) (ty:=type) (ts:=l) hg hi r1 r2 ha;refine jy hK ⟨vc,w',μ,a,b,c,d⟩ fun vc w' hr=>?_;simp only [execOp,resolve,invoke,builtin,Sem.run_bind,Sem.run_pure,Result.andThen_ok,q1,et,hr]
   ·cases hh
  case delete=>
   unfold qN at hh;split at hh
   ·rename_i t l m k e1 e2;obtain ⟨i,hi,hh⟩:=cZ hh;obtain ⟨h',ha,hK⟩:=mq hh;obtain ⟨us,q1,q2⟩:=uP hρ e2;obtain ⟨sv,Ks,rfl,r1,q3⟩:=q2.cons_inv;obtain ⟨xv,Ld,rfl,r2,q4⟩:=q3.cons_inv;obtain rfl:=q4.ee;have et:ts=(t :: l).toArray:=by apply Array.ext';simpa using e1
    obtain ⟨w',a,c,d⟩:=B2 (ty:=type) (ts:=l) hg hi r1 r2 ha;refine jy hK ⟨undef,w',μ,a,VR.aZ,c,d⟩ fun vc w' hr=>?_;simp only [execOp,resolve,invoke,builtin,Sem.run_bind,Sem.run_pure,Result.andThen_ok,q1,et,hr]
   ·cases hh
theorem G1(hg:Good w0 μ h w)(hρ:∀ x,VR w0 μ (ρ x) (ρc x)){o:Oper}(hk:cP o.op = .Bw)(hh:dY o.op P ρ h K=true):Left P w0 μ h w K ((execOp ρc o).run P w):=by
 obtain ⟨dst,op,type,pos,after,guard⟩:=o;cases op<;>simp only [cP,reduceCtorEq] at hk<;>simp only [dY,false_eq_true] at hh
 case store t a x=>
  obtain ⟨n,hi,hh⟩:=cZ hh;obtain ⟨h',ha,hK⟩:=mq hh;exact m9 hK (DO hg hi (hρ a) (hρ x) ha) fun w' hr=>by simp [execOp,hr]
 case convert s d x=>
  obtain ⟨n,hi,hh⟩:=cZ hh;obtain ⟨v,h',ha,hK⟩:=mo hh;exact jy hK (Ag hg hi (hρ x) ha) fun vc w' hr=>by simp [execOp,hr]
 case mapUpdate t m k x=>
  obtain ⟨n,hi,hh⟩:=cZ hh;obtain ⟨h',ha,hK⟩:=mq hh;exact m9 hK (nJ hg hi (hρ m) (hρ k) (hρ x) ha) fun w' hr=>by simp [execOp,hr]
 case insert t m k x=>
  obtain ⟨n,hi,hh⟩:=cZ hh;obtain ⟨h',ha,hK⟩:=mq hh;exact m9 hK (nJ hg hi (hρ m) (hρ k) (hρ x) ha) fun w' hr=>by simp [execOp,hr]
 case mapEntry t m k=>
  obtain ⟨n,hi,hh⟩:=cZ hh;obtain ⟨v,h',ha,hK⟩:=mo hh;obtain ⟨vc,w',a,b,c,d⟩:=yT hg hi (hρ m) (hρ k) ha;exact jy hK ⟨vc,w',μ,a,b,c,d⟩ fun vc w' hr=>by simp [execOp,hr]
 case entryStore t m s x=>
  obtain ⟨h',ha,hK⟩:=mq hh;exact m9 hK (uO (t:=t) hg (hρ m) (hρ s) (hρ x) ha) fun w' hr=>by simp [execOp,hr]
 case range t x=>
  obtain ⟨n,hi,hh⟩:=cZ hh;obtain ⟨v,h',ha,hK⟩:=mo hh;exact jy hK (DQ hg hi (hρ x) ha) fun vc w' hr=>by simp [execOp,hr]
 case entry x=>
  obtain ⟨v,ha,hK⟩:=G0 hh;obtain ⟨vc,a,b⟩:=DR (P:=P) hg (hρ x) ha;exact jy hK ⟨vc,w,μ,a,b,hg,Ext.refl _ _ _⟩ fun vc w' hr=>by simp [execOp,hr]
 case call c=>exact Fl (dst:=dst) (pos:=pos) (after:=after) (guard:=guard) hg hρ hk hh
theorem Left.Ah{v:AV}{vc:Value}{r:Result Next}(hK:K v h=true)(hr:r = .ok (.value vc) w)(hv:VR w0 μ v vc)(hg:Good w0 μ h w):Left P w0 μ h w K r:=
 ⟨v,h,vc,w,μ,hK,.inl hr,hv,hg,Ext.refl _ _ _⟩
theorem Ji(hg:Good w0 μ h w)(hρ:∀ x,VR w0 μ (ρ x) (ρc x)){o:Oper}(hh:dY o.op P ρ h K=true):Left P w0 μ h w K ((execOp ρc o).run P w):=by
 cases hk:cP o.op with
 |pure=>
  rw [m6 hk] at hh;obtain ⟨v,hv,hK⟩:=cZ hh;obtain ⟨vc,h1,h2⟩:=Aa hρ hk hv;exact .Ah hK (h1 w) h2 hg
 |read=>
  rw [ku hk] at hh;obtain ⟨v,hv,hK⟩:=cZ hh;obtain ⟨vc,h1,h2⟩:=Ac hg hρ hk hv;exact .Ah hK h1 h2 hg
 |alloc=>
  rw [kT hk] at hh;obtain ⟨⟨k,ob⟩,hv,hK⟩:=cZ hh;obtain ⟨O,n,f,hm⟩:=xL (w0:=w0) (μ:=μ) hρ hk hv;obtain ⟨g1,g2⟩:=hg.alloc ob O n (hm.obj _ _);exact ⟨_,_,_,_,_,hK,.inl (hm.run w),hm.val _ _ _ (Mu.add_same _ _ _),g1,g2⟩
 |Bw=>exact G1 hg hρ hk hh
end
end Go.AM