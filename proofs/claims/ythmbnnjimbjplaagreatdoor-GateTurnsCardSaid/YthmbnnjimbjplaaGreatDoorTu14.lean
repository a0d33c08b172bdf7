/- Arguments of plain types, read as data of the abstract machine. Conditions: none. -/
import Derived.Test.YthmbnnjimbjplaaGreatDoorTu13
import Derived.SizedLaws
set_option linter.unusedSimpArgs false
set_option linter.unusedVariables false
namespace Go.AM
open List Nat Bool Option
open Go Go.RowKit Go.ChangeShapes Go.WideShapes
noncomputable section
variable {t e:TypeId} {fs:Array Field} {f:Field} {n:Nat}
section
variable {H:Type} {enc:TypeId×Value->H} {P:Program} {w:World}
def Small(P:Program)(t:TypeId)(d:DataW H):Prop:=∀ n ∈ d.weights P t,n<=reachBytes
theorem xZ:reachBytes<=dx:=by decide
theorem gU{ds:List (DataW H)}(ht:P.underlying t=some (.struct fs))(h:Small P t (.agg ds)){j:Nat}{d:DataW H}(hf:fs[j]?=some f)(hd:ds[j]?=some d):Small P f.type d:=by
 intro n hn;refine h n ?_;simp only [DataW.weights,ht];exact DataW.weights_mem_each (ts:=fs.toList.map (·.type)) (j:=j) (by simp [hf]) hd n hn
theorem mD{e:TypeId}{d:DataW H}{n:Nat}(hn:n ∈ d.weights P e):∀ {l:List (DataW H)},d ∈ l->n ∈ DataW.weightsAll P e l
 |x :: l,h=>by
  simp only [DataW.weightsAll,mem_append];rcases mem_cons.1 h with rfl|h
  ·exact .inl hn
  ·exact .inr (mD hn h)
theorem AI{ds sp:List (DataW H)}(ht:P.underlying t=some (.slice e))(hb:0<P.bytesOf e)(h:Small P t (.slice ds sp)):ds.length<=dx/\∀ d ∈ ds,Small P e d:=by
 refine ⟨?_,fun d hd n hn=>h n ?_⟩
 ·have h1:=h ((ds.length+sp.length)*P.bytesOf e) (by simp [DataW.weights,ht]);have h2:ds.length*1<=(ds.length+sp.length)*P.bytesOf e:=Nat.mul_le_mul (by omega) hb;have:=xZ;omega
 ·simp only [DataW.weights,ht,mem_cons,mem_append];exact .inr (.inl (mD hn hd))
theorem ya{ts:List TypeId}{ds:List (DataW H)}(h:(DataW.weightsEach P ts ds).all (·<=reachBytes)=true){j:Nat}{d:DataW H}(ht:ts[j]?=some t)(hd:ds[j]?=some d):Small P t d:=by
 intro n hn;have:=List.all_eq_true.1 h n (DataW.weights_mem_each ht hd n hn);simpa using this
def RD(enc:TypeId×Value->H)(P:Program)(w:World)(t:TypeId){α:Type}(nA:α->List AV)(ok:α->Prop):Prop:=
 Reads enc P w t fun d xs=>∃ a,xs=nA a/\(Small P t d->ok a)
def O3(enc:TypeId×Value->H)(P:Program)(w:World)(n:Nat)(t:TypeId){α:Type}(nA:α->List AV)(ok:α->Prop):Prop:=
 ru enc P w n t fun d xs=>∃ a,xs=nA a/\(Small P t d->ok a)
theorem vf(ht:P.underlying t=some (.int .i64)):RD enc P w t encI (fun _=>True):=fun fuel cs d ps h=>by
 obtain ⟨xs,⟨n,rfl,rfl,_⟩,hv⟩:=D6 ht fuel cs d ps h;exact ⟨_,⟨n,rfl,fun _=>trivial⟩,hv⟩
theorem yb(ht:P.underlying t=some .string):RD enc P w t encS (fun s=>s.length<=dx):=fun fuel cs d ps h=>by
 obtain ⟨xs,⟨n,rfl,rfl,_⟩,hv⟩:=zc ht fuel cs d ps h;refine ⟨_,⟨n,rfl,fun hs=>?_⟩,hv⟩;have:=hs n.length (by simp [DataW.weights]);have:=xZ;omega
theorem Dm{α:Type}{nA:α->List AV}{ok:DataW H->α->Prop}:∀ (ds:List (DataW H)) (rows:List (List AV)),rows.length=ds.length ->
  (∀ (i:Nat) (d:DataW H) (r:List AV),ds[i]?=some d->rows[i]?=some r->∃ a,r=nA a/\ok d a)->∃ as:List α,rows=as.map nA/\as.length=ds.length/\∀ a ∈ as,∃ d ∈ ds,ok d a
 |[],[],_,_=>⟨[],rfl,rfl,by simp⟩
 |d :: ds,r :: rows,hl,h=>by
  obtain ⟨as,h1,h2,h3⟩:=Dm ds rows (by simpa using hl) fun i d r hd hr=>h (i+1) d r (by simpa using hd) (by simpa using hr);obtain ⟨a,ha,EL⟩:=h 0 d r rfl rfl;refine ⟨a :: as,by simp [ha,h1],by simp [h2],fun b hb=>?_⟩;rcases mem_cons.1 hb with rfl|hb
  ·exact ⟨d,by simp,EL⟩
  ·obtain ⟨d',nM,Ny⟩:=h3 b hb;exact ⟨d',by simp [nM],Ny⟩
 |[],_ :: _,hl,_=>by simp at hl
 |_ :: _,[],hl,_=>by simp at hl
theorem D8{α:Type}{nA:α->List AV}{ok:α->Prop}(ht:P.underlying t=some (.slice e)){sz:Nat}(hc:P.cellsOf e=sz)(hz:0<sz)(hb:0<P.bytesOf e)(hR:O3 enc P w n e nA ok) :
  O3 enc P w (n+1) t (fun x:Sl α=>[cp nA sz x]) (fun x=>x.l.length<=dx/\∀ a ∈ x.l,ok a):=fun cs d ps h=>by
 obtain ⟨xs,hx,hv⟩:=ze ht (by omega) hR cs d ps h;rcases hx with ⟨rfl,rfl⟩|⟨ds,sp,rows,rfl,rfl,hl,pG⟩
 ·exact ⟨_,⟨none,rfl,fun _=>⟨by simp,by simp⟩⟩,hv⟩
 ·obtain ⟨as,rfl,h2,h3⟩:=Dm (nA:=nA) (ok:=fun d a=>Small P e d->ok a) ds rows hl fun i d r hd hr=>(pG i d r hd hr).1;refine ⟨_,⟨some as,?_,fun hs=>?_⟩,hv⟩
  ·rw [hc];show [AV.aL (as.map nA).flatten 0 ds.length sz] = [AV.aL (as.flatMap nA) 0 as.length sz];rw [h2,flatMap_def]
  ·obtain ⟨s1,s2⟩:=AI ht hb hs;refine ⟨by simpa [h2] using s1,fun a ha=>?_⟩;obtain ⟨d,hd,EL⟩:=h3 a ha;exact EL (s2 d hd)
theorem p8{α:Type}{nA:α->List AV}{ok:α->Prop}(ht:P.underlying t=some (.slice e)){sz:Nat}(hc:P.cellsOf e=sz)(hz:0<sz)(hb:0<P.bytesOf e)(hR:RD enc P w e nA ok) :
  RD enc P w t (fun x:Sl α=>[cp nA sz x]) (fun x=>x.l.length<=dx/\∀ a ∈ x.l,ok a):=fun fuel cs d ps h=>by
 cases fuel with
 |zero=>cases h
 |succ n=>exact D8 ht hc hz hb (fun cs d ps h=>hR n cs d ps h) cs d ps h
def mE(P:Program):List Field->Nat
 |[]=>0
 |f :: fs=>P.cellsOf f.type+mE P fs
def FN(enc:TypeId×Value->H)(P:Program)(w:World)(n:Nat)(fs:List Field)(o:Nat)(R:List (DataW H)->List AV->Prop):Prop:=
 ∀ (cs:List Value) (ys:List (DataW H×List MemPlace)),ys.length=fs.length ->
  (∀ (j:Nat) (f:Field) (y:DataW H×List MemPlace),fs[j]?=some f->ys[j]?=some y->DataW.trod enc P w 0 (fun _=>true) true n f.type ((cs.drop f.offset).take (P.cellsOf f.type))=some y) ->
  ∃ xs,R (ys.map (·.1)) xs/\cj w (ny w) xs ((cs.drop o).take (mE P fs))
def MC(enc:TypeId×Value->H)(P:Program)(w:World)(fs:List Field)(o:Nat)(R:List (DataW H)->List AV->Prop):Prop:=∀ n:Nat,FN enc P w n fs o R
theorem FO(n o:Nat):FN enc P w n [] o fun ds xs=>ds = []/\xs = []:=fun cs ys hl _=>by
 have:ys = []:=eq_nil_of_length_eq_zero (by simpa using hl);subst this;exact ⟨[],⟨rfl,rfl⟩,by simpa [mE] using cj.nil⟩
theorem uf(o:Nat):MC enc P w [] o fun ds xs=>ds = []/\xs = []:=fun n=>FO n o
theorem D9{fs:List Field}{o:Nat}{R0:DataW H->List AV->Prop}{R1:List (DataW H)->List AV->Prop}(ho:f.offset=o)(h0:ru enc P w n f.type R0)(h1:FN enc P w n fs (o+P.cellsOf f.type) R1) :
  FN enc P w n (f :: fs) o fun ds xs=>∃ d0 LD x0 x1,ds=d0 :: LD/\xs=x0++x1/\R0 d0 x0/\R1 LD x1:=fun cs ys hl h=>by
 cases ys with
 |nil=>simp at hl
 |cons y ys=>
  have hy:=h 0 f y rfl rfl;obtain ⟨y1,y2⟩:=y;obtain ⟨x0,sK,qJ⟩:=h0 _ y1 y2 hy;obtain ⟨x1,Cg,FC⟩:=h1 cs ys (by simpa using hl) fun j f' y' hf LF=>h (j+1) f' y' (by simpa using hf) (by simpa using LF);refine ⟨x0++x1,⟨y1,_,x0,x1,rfl,rfl,sK,Cg⟩,?_⟩;rw [ho] at qJ
  have:(cs.drop o).take (mE P (f :: fs))=(cs.drop o).take (P.cellsOf f.type)++(cs.drop (o+P.cellsOf f.type)).take (mE P fs):=by
   rw [mE,take_add,drop_drop]
  rw [this];exact qJ.append FC
theorem fY{fs:List Field}{o:Nat}{R0:DataW H->List AV->Prop}{R1:List (DataW H)->List AV->Prop}(ho:f.offset=o)(h0:Reads enc P w f.type R0)(h1:MC enc P w fs (o+P.cellsOf f.type) R1) :
  MC enc P w (f :: fs) o fun ds xs=>∃ d0 LD x0 x1,ds=d0 :: LD/\xs=x0++x1/\R0 d0 x0/\R1 LD x1:=fun n=>D9 ho (h0 n) (h1 n)
theorem Ch{R:List (DataW H)->List AV->Prop}(ht:P.underlying t=some (.struct fs))(hc:P.cellsOf t=mE P fs.toList)(hR:FN enc P w n fs.toList 0 R) :
  ru enc P w (n+1) t fun d xs=>∃ ds,d = .agg ds/\R ds xs:=fun cs d ps h=>by
 obtain ⟨ys,n',hn,he,hl,hlen,hf⟩:=DataW.trod_struct ht h;cases he;obtain rfl:n=n':=by omega
 obtain ⟨xs,hx,hv⟩:=hR cs ys (by simpa using hlen) fun j f y hj hy=>by
  have:=hf j f (by simpa using hj);rw [hy] at this;exact this
 refine ⟨xs,⟨_,rfl,hx⟩,?_⟩;rw [drop_zero,<- hc,<- hl,take_length] at hv;exact hv
theorem nr{R:List (DataW H)->List AV->Prop}(ht:P.underlying t=some (.struct fs))(hc:P.cellsOf t=mE P fs.toList)(hR:MC enc P w fs.toList 0 R) :
  Reads enc P w t fun d xs=>∃ ds,d = .agg ds/\R ds xs:=fun fuel cs d ps h=>by
 cases fuel with
 |zero=>cases h
 |succ n=>exact Ch ht hc (hR n) cs d ps h
end
end
end Go.AM