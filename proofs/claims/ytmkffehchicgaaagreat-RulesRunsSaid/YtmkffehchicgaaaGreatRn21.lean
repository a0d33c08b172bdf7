/- Parts of a proof, merged out of smaller texts: the abstract machine and what functions do. Conditions: none. -/
import Derived.Test.YtmkffehchicgaaaGreatRn1
import Derived.Test.YtmkffehchicgaaaGreatRn9
import Derived.Test.YtmkffehchicgaaaGreatRn13
import Derived.Test.YtmkffehchicgaaaGreatRn14
set_option linter.unusedSimpArgs false
set_option linter.unusedVariables false
namespace Go.AM
open Go Go.Proofs
noncomputable section
def kT(n:Int):Bool:=(decide (97≤n)&&decide (n≤122))||(decide (65≤n)&&decide (n≤90))
def tc(n:Int):Bool:=decide (48≤n)&&decide (n≤57)
def words:List bG:=[[97,110,100],[111,114],[110,111,116],[115,111,109,101],[97,108,108],[108,102,112],[112,102,112],[116,99],[101,120,105,115,116,115],[116,114,117,101],[102,97,108,115,101]]
def Ah(s:bG):Bool:=words.any fun w=>s==w
theorem uy{n:Int}{h:ag}{K:Out→ag→Bool}(hK:K (.ret (.bool (kT n))) h=true):Sem Tryz.prog 163 [.int .u8 n] h K:=by
 refine F.vo ?_
 simp only [mY,ud,bindO_some,condB_bool]
 unfold kT at hK
 by_cases h1:97≤n<;>by_cases h2:n≤122<;>by_cases h3:65≤n<;>by_cases h4:n≤90<;>simpa [h1,h2,h3,h4] using hK
theorem Eo{n:Int}{h:ag}{K:Out→ag→Bool}(hK:K (.ret (.bool (tc n))) h=true):Sem Tryz.prog 165 [.int .u8 n] h K:=by
 refine F.xA ?_
 simp only [mY,ud,bindO_some,condB_bool]
 unfold tc at hK
 by_cases h1:48≤n<;>by_cases h2:n≤57<;>simpa [h1,h2] using hK
theorem uz{n:Int}{h:ag}{K:Out→ag→Bool}(hK:K (.ret (.bool (kT n))) h=true):Sem Tryz.prog 170 [.int .u8 n] h K:=by
 refine F.vp ?_
 simp only [mY,ud,bindO_some,condB_bool]
 unfold kT at hK
 by_cases h1:97≤n<;>by_cases h2:n≤122<;>by_cases h3:65≤n<;>by_cases h4:n≤90<;>simpa [h1,h2,h3,h4] using hK
theorem Er{n:Int}{h:ag}{K:Out→ag→Bool}(hK:K (.ret (.bool (tc n))) h=true):Sem Tryz.prog 172 [.int .u8 n] h K:=by
 refine F.xD ?_
 simp only [mY,ud,bindO_some,condB_bool]
 unfold tc at hK
 by_cases h1:48≤n<;>by_cases h2:n≤57<;>simpa [h1,h2] using hK
theorem FV{s:bG}{h:ag}{K:Out→ag→Bool}(hK:K (.ret (.bool (Ah s))) h=true):Sem Tryz.prog 164 [.str s] h K:=by
 refine F.zy ?_
 simp only [zm,bindO_some,condB_bool]
 simp only [Ah,words,List.any_cons,List.any_nil,Bool.or_false] at hK
 repeat (first|exact hK|(generalize (s==_)=b at hK ⊢;cases b<;>simp only [aJ,aG,Bool.true_or,Bool.false_or] at hK ⊢<;>try exact hK))
theorem FW{s:bG}{h:ag}{K:Out→ag→Bool}(hK:K (.ret (.bool (Ah s))) h=true):Sem Tryz.prog 171 [.str s] h K:=by
 refine F.zC ?_
 simp only [zm,bindO_some,condB_bool]
 simp only [Ah,words,List.any_cons,List.any_nil,Bool.or_false] at hK
 repeat (first|exact hK|(generalize (s==_)=b at hK ⊢;cases b<;>simp only [aJ,aG,Bool.true_or,Bool.false_or] at hK ⊢<;>try exact hK))
def okB(b:UInt8):Bool:=kT b.toNat||tc b.toNat
def dX(s:bG):Bool:=match s with
 |[]=>false
 |c :: _=>decide (s.length≤12)&&(kT c.toNat&&(!Ah s&&s.all okB))
theorem gJ{α:Type}{p:α→Bool}{l:List α}{i:Nat}{a:α}(ha:l[i]?=some a)(ht:(l.take i).all p=true)(hp:p a=true):(l.take (i+1)).all p=true:=by
 rw [List.take_add_one,ha];simp [ht,hp]
theorem all_false{α:Type}{p:α→Bool}{l:List α}{i:Nat}{a:α}(ha:l[i]?=some a)(hp:p a=false):l.all p=false:=by
 rw [Bool.eq_false_iff]
 intro h
 rw [List.all_eq_true] at h
 have:=h a (List.mem_of_getElem? ha)
 rw [hp] at this;cases this
theorem dK{s:bG}{h:ag}{K:Out→ag→Bool}(hK:K (.ret (.bool (dX s))) h=true):Sem Tryz.prog 116 [.str s] h K:=by
 refine F.zw ?_
 cases s with
 |nil=>simpa [dX,lT,ov,ax,af] using hK
 |cons c s'=>
  have h0:(c :: s')[0]?=some c:=rfl
  simp only [lT,ov,CU,bindO_some,condB_bool]
  have h1:decide (((c :: s').length:Int)<1)=false:=by simp;omega
  simp only [h1,aG]
  by_cases h2:(c :: s').length≤12
  ·have h3:decide ((12:Int)<((c :: s').length:Int))=false:=by simp at h2 ⊢;omega
   simp only [h3,aG]
   rw [show iD (.str (c :: s')) (.int .i64 0)=some (.int .u8 (c.toNat:Int)) from yG (i:=0) h0]
   simp only [bindO_some]
   refine an (uy ?_)
   simp only [outK_ret,mz,bindO_some,condB_bool]
   cases hl:kT c.toNat with
   |false=>simpa [dX,hl] using hK
   |true=>
    simp only [Bool.not_true,aG]
    refine an (FV ?_)
    simp only [outK_ret,condB_bool]
    cases hw:Ah (c :: s') with
    |true=>simpa [dX,hl,hw] using hK
    |false=>
     simp only [aG]
     have hn:dX (c :: s')=(c :: s').all okB:=by simp only [dX,hl,hw,Bool.not_false,Bool.true_and];rw [decide_eq_true h2,Bool.true_and]
     rw [hn] at hK
     have h4:((c :: s').take 1).all okB=true:=by simp [okB,hl]
     have h5:1≤(c :: s').length:=by simp
     clear h0 h1 h3 hl hw hn
     generalize (c :: s')=s at hK h2 h4 h5 ⊢
     refine aC 1 s.length h5 (fun i e h'=>h'=h∧e 0 = .str s∧e 3 = .int .i64 (i:Int)∧(s.take i).all okB=true) ⟨rfl,rfl,rfl,h4⟩ ?_ ?_
     ·rintro i e h' _ hi ⟨rfl,e0,e3,ht⟩ K' hn hx hr hp
      have hb:s[i]?=some s[i]:=List.getElem?_eq_getElem hi
      have hlt:decide ((i:Int)<(s.length:Int))=true:=by simp;omega
      rw [F.dK.aO]
      simp only [e0,e3,lT,ov,yG hb,bindO_some,condB_bool,hlt,aJ]
      refine an (uy ?_)
      simp only [outK_ret,mz,bindO_some,condB_bool]
      cases hl:kT s[i].toNat with
      |true=>
       simp only [Bool.not_true,aG,gH (a:=(i:Int)) (b:=1) (by omega) (by omega),bindO_some]
       exact hn _ _ ⟨rfl,e0,rfl,gJ hb ht (by simp [okB,hl])⟩
      |false=>
       simp only [Bool.not_false,aJ]
       refine an (Eo ?_)
       simp only [outK_ret,mz,bindO_some,condB_bool]
       cases hd:tc s[i].toNat with
       |true=>
        simp only [Bool.not_true,aG,gH (a:=(i:Int)) (b:=1) (by omega) (by omega),bindO_some]
        exact hn _ _ ⟨rfl,e0,rfl,gJ hb ht (by simp [okB,hd])⟩
       |false=>
        simp only [Bool.not_false,aJ]
        rw [hr,F.dK.bt]
        have:s.all okB=false:=all_false hb (by simp [okB,hl,hd])
        rw [this] at hK;exact hK
     ·rintro e h' ⟨rfl,e0,e3,ht⟩ K' hx
      have hlt:decide ((s.length:Int)<(s.length:Int))=false:=by simp
      rw [F.dK.aO]
      simp only [e0,e3,lT,ov,bindO_some,condB_bool,hlt,aG]
      rw [hx,F.dK.aD]
      rw [List.take_of_length_le (Nat.le_refl _)] at ht
      rw [ht] at hK;exact hK
  ·have h3:decide ((12:Int)<((c :: s').length:Int))=true:=by simp at h2 ⊢;omega
   simp only [h3,aJ]
   have:dX (c :: s')=false:=by simp only [dX];rw [decide_eq_false h2];rfl
   rw [this] at hK;exact hK
theorem dy{s:bG}{h:ag}{K:Out→ag→Bool}(hK:K (.ret (.bool (dX s))) h=true):Sem Tryz.prog 135 [.str s] h K:=by
 refine F.zx ?_
 cases s with
 |nil=>simpa [dX,zm,ax,af] using hK
 |cons c s'=>
  have h0:(c :: s')[0]?=some c:=rfl
  have h1:((c :: s')==([]:bG))=false:=rfl
  simp only [lT,zm,CU,bindO_some,condB_bool,h1,aG]
  by_cases h2:(c :: s').length≤12
  ·have h3:decide ((12:Int)<((c :: s').length:Int))=false:=by simp at h2 ⊢;omega
   simp only [h3,aG]
   rw [show iD (.str (c :: s')) (.int .i64 0)=some (.int .u8 (c.toNat:Int)) from yG (i:=0) h0]
   simp only [bindO_some]
   refine an (uz ?_)
   simp only [outK_ret,mz,bindO_some,condB_bool]
   cases hl:kT c.toNat with
   |false=>simpa [dX,hl] using hK
   |true=>
    simp only [Bool.not_true,aG]
    refine an (FW ?_)
    simp only [outK_ret,condB_bool]
    cases hw:Ah (c :: s') with
    |true=>simpa [dX,hl,hw] using hK
    |false=>
     simp only [aG,lT,bindO_some]
     have hn:dX (c :: s')=(c :: s').all okB:=by simp only [dX,hl,hw,Bool.not_false,Bool.true_and];rw [decide_eq_true h2,Bool.true_and]
     rw [hn] at hK
     have h4:((c :: s').take 1).all okB=true:=by simp [okB,hl]
     have h5:1≤(c :: s').length:=by simp
     clear h0 h1 h3 hl hw hn
     generalize (c :: s')=s at hK h2 h4 h5 ⊢
     refine aC 0 s.length (Nat.zero_le _) (fun i e h'=>h'=h∧e 0 = .str s∧e 23 = .int .i64 (i:Int)∧e 22 = .int .i64 (s.length:Int)∧(s.take i).all okB=true) ⟨rfl,rfl,rfl,rfl,rfl⟩ ?_ ?_
     ·rintro i e h' _ hi ⟨rfl,e0,e3,e22,ht⟩ K' hn hx hr hp
      have hb:s[i]?=some s[i]:=List.getElem?_eq_getElem hi
      have hlt:decide ((i:Int)<(s.length:Int))=true:=by simp;omega
      rw [F.dy.aO]
      simp only [e0,e3,e22,lT,ov,yG hb,bindO_some,condB_bool,hlt,aJ]
      refine an (uz ?_)
      simp only [outK_ret,mz,bindO_some,condB_bool]
      cases hl:kT s[i].toNat with
      |true=>
       simp only [Bool.not_true,aG,gH (a:=(i:Int)) (b:=1) (by omega) (by omega),bindO_some]
       exact hn _ _ ⟨rfl,e0,rfl,e22,gJ hb ht (by simp [okB,hl])⟩
      |false=>
       simp only [Bool.not_false,aJ]
       refine an (Er ?_)
       simp only [outK_ret,mz,bindO_some,condB_bool]
       cases hd:tc s[i].toNat with
       |true=>
        simp only [Bool.not_true,aG,gH (a:=(i:Int)) (b:=1) (by omega) (by omega),bindO_some]
        exact hn _ _ ⟨rfl,e0,rfl,e22,gJ hb ht (by simp [okB,hd])⟩
       |false=>
        simp only [Bool.not_false,aJ]
        rw [hr,F.dy.bt]
        have:s.all okB=false:=all_false hb (by simp [okB,hl,hd])
        rw [this] at hK;exact hK
     ·rintro e h' ⟨rfl,e0,e3,e22,ht⟩ K' hx
      have hlt:decide ((s.length:Int)<(s.length:Int))=false:=by simp
      rw [F.dy.aO]
      simp only [e0,e3,e22,lT,ov,bindO_some,condB_bool,hlt,aG]
      rw [hx,F.dy.aD]
      rw [List.take_of_length_le (Nat.le_refl _)] at ht
      rw [ht] at hK;exact hK
  ·have h3:decide ((12:Int)<((c :: s').length:Int))=true:=by simp at h2 ⊢;omega
   simp only [h3,aJ]
   have:dX (c :: s')=false:=by simp only [dX];rw [decide_eq_false h2];rfl
   rw [this] at hK;exact hK
theorem fN{x:Sl Int}{i:Nat}{v:Int}(hv:x.l[i]?=some v){h:ag}:ai none (.iptr (x.l.flatMap encI) (i*1)) h=some (.int .i64 v):=by
 rw [ou mw hv];rfl
def ir(n:Int)(l:List Int):Bool:=l.all fun x=>!decide (x<0)&&!decide (n≤x)
def iv(n:Int):AV:=.int .i64 n
theorem oJ(d:List Int):d.map iv=d.flatMap encI:=by
 induction d with
 |nil=>rfl
 |cons a d ih=>rw [List.map_cons,List.flatMap_cons,ih];rfl
theorem jh{b i n:Nat}{k:IntKind}(h:i<n):cS 1 (.slice b 0 n 1) (.int k (i:Int))=some (.ptr b i):=by simp [cS,asNat,h]
theorem jY{b i:Nat}{h:ag}{d:List Int}{v:Int}(hb:h.get b=some (.cells (d.map iv)))(hv:d[i]?=some v):ai none (.ptr b i) h=some (.int .i64 v):=by
 rw [ak hb,nH,List.getElem?_map,hv];rfl
theorem mC{b i:Nat}{h:ag}{d:List Int}{v:Int}(hb:h.get b=some (.cells (d.map iv)))(hi:i<d.length):bp 1 (.ptr b i) (.int .i64 v) h=some (h.set b (.cells ((d.set i v).map iv))):=by
 rw [cT (n:=1) hb rfl rfl (by simp;omega),List.map_set];rfl
theorem Ny(n:Nat):gZ [.int .i64 0] n=(List.replicate n (0:Int)).map iv:=by
 induction n with
 |zero=>rfl
 |succ n ih=>rw [gZ,ih];rfl
theorem rD{n:Nat}(hn:n≤1000000)(h:ag):c8 1 8 [.int .i64 0] (.int .i64 (n:Int)) (.int .i64 (n:Int)) h=some (.slice h.next 0 n 1,h.alloc (.cells ((List.replicate n (0:Int)).map iv))):=by
 have:(8*(n:Int))≤140737488355328:=by omega
 simp [c8,uZ,this,Ny]
theorem Es{d:List Int}{h:ag}{b:Nat}(hb:h.get b=some (.cells (d.map iv))):Fz true h (.slice b 0 d.length 1) (aq encI 1 (some d)):=by
 refine .slice b 0 d.length 1 _ _ hb (by rw [oJ]) fun i x y hx hy=>?_
 rw [oJ,hy] at hx
 cases hx
 rw [← oJ,List.getElem?_map] at hy
 obtain ⟨v,hv,rfl⟩:=Option.map_eq_some_iff.1 hy
 exact .scalar _ rfl
theorem Jx(a b:Int):∃ v,aA .add (.int .i64 a) (.int .i64 b)=some (.int .i64 v):=⟨_,KK a b⟩
def pM(n:Nat):List Int→Nat→Nat
 |[],r=>r
 |x :: l,r=>pM n l (r*n+x.toNat)
def iL(n:Nat)(l:List Int):Nat:=pM n l 0
inductive Own {α:Type} (enc:α→List AV) (sz k:Nat) (h:ag):AV→List α→Prop
 |nil:Own enc sz k h .nils []
 |row (b:Nat) (l:List α):k≤b→b<h.next→h.get b=some (.cells (l.flatMap enc))→Own enc sz k h (.slice b 0 l.length sz) l
variable {α:Type} {enc:α→List AV} {sz k:Nat}
theorem Own.len{h h':ag}{a:AV}{l:List α}(o:Own enc sz k h a l):bz .slice a h'=some (.int .i64 (l.length:Int)):=by
 cases o<;>rfl
theorem Own.ext{h h':ag}{a:AV}{l:List α}(o:Own enc sz k h a l)(hx:bJ h h'):Own enc sz k h' a l:=by
 cases o with
 |nil=>exact .nil
 |row b l h1 h2 h3=>exact .row b l h1 (Nat.lt_of_lt_of_le h2 hx.next) (by rw [hx.get b h2];exact h3)
theorem Own.get{h:ag}{a:AV}{l:List α}(o:Own enc sz k h a l)(he:∀ x,(enc x).length=sz){i:Nat}{v:α}(hv:l[i]?=some v) :
  ∃ b,k≤b∧b<h.next∧(∀ q:IntKind,cS sz a (.int q (i:Int))=some (.ptr b (i*sz)))∧ai (some sz) (.ptr b (i*sz)) h=some (.agg (enc v))∧∀ m,m<sz→ai none (.ptr b (i*sz+m)) h=(enc v)[m]?:=by
 cases o with
 |nil=>simp at hv
 |row b l h1 h2 h3=>
  have hi:=(List.getElem?_eq_some_iff.1 hv).1
  refine ⟨b,h1,h2,fun q=>by simp [cS,asNat,hi],?_,fun m hm=>by rw [ak h3,nH,mX he l i m v hv hm]⟩
  rw [ak h3]
  have hp:=lR he l i v hv
  simp only [gW]
  have hlen:i*sz+sz≤(l.flatMap enc).length:=by
   rw [gq he]
   have:(i+1)*sz≤l.length*sz:=Nat.mul_le_mul_right sz hi
   rw [Nat.succ_mul] at this;exact this
  rw [if_pos (by simpa using hlen),hp]
section
variable {α:Type} {enc:α→List AV} {sz k:Nat}
structure Row (enc:α→List AV) (sz:Nat) (h:ag) (x:AV) (l:List α):Prop where
 len:ku x=some l.length
 cells:gY sz l.length x h=some (l.flatMap enc)
theorem B5(he:∀ x,(enc x).length=sz):∀ (l:List α) (i:Nat),(l.flatMap enc).take (i*sz)=(l.take i).flatMap enc
 |[],i=>by simp
 |x :: l,0=>by simp
 |x :: l,i+1=>by
  rw [List.flatMap_cons,List.take_succ_cons,List.flatMap_cons,List.take_append,he,Nat.succ_mul,Nat.add_sub_cancel,B5 he l i,List.take_of_length_le (by rw [he];omega)]
theorem B6(he:∀ x,(enc x).length=sz):∀ (l:List α) (i:Nat),(l.flatMap enc).drop (i*sz)=(l.drop i).flatMap enc
 |[],i=>by simp
 |x :: l,0=>by simp
 |x :: l,i+1=>by
  rw [List.flatMap_cons,List.drop_succ_cons,List.drop_append,he,Nat.succ_mul,Nat.add_sub_cancel,B6 he l i,List.drop_of_length_le (by rw [he];omega),List.nil_append]
theorem Own.Mk{h:ag}{a:AV}{l:List α}(o:Own enc sz k h a l)(he:∀ x,(enc x).length=sz){i:Nat}(hi:i≤l.length) :
  ∃ x,(∀ q:IntKind,gI (some sz) a none (some (.int q (i:Int)))=some x)∧∀ h',bJ h h'→Row enc sz h' x (l.take i):=by
 cases o with
 |nil=>simp at hi;subst hi;exact ⟨.nils,fun q=>by simp [gI,ku,nh,asNat],fun h' _=>⟨rfl,rfl⟩⟩
 |row b l h1 h2 h3=>
  refine ⟨.slice b 0 i sz,fun q=>by simp [gI,ku,nh,asNat,hi],fun h' hx=>⟨by simp [ku,Nat.min_eq_left hi],?_⟩⟩
  have h3':h'.get b=some (.cells (l.flatMap enc)):=by rw [hx.get b h2];exact h3
  have hl:(l.flatMap enc).length=l.length*sz:=gq he l
  have hm:(l.take i).length=i:=by rw [List.length_take,Nat.min_eq_left hi]
  simp only [gY,h3',if_true,Nat.zero_add,hl,hm,List.drop_zero]
  rw [if_pos (Nat.mul_le_mul_right sz hi),B5 he]
theorem Own.Ml{h:ag}{a:AV}{l:List α}(o:Own enc sz k h a l)(he:∀ x,(enc x).length=sz){i:Nat}(hi:i≤l.length) :
  ∃ x,(∀ q:IntKind,gI (some sz) a (some (.int q (i:Int))) none=some x)∧∀ h',bJ h h'→Row enc sz h' x (l.drop i):=by
 cases o with
 |nil=>simp at hi;subst hi;exact ⟨.nils,fun q=>by simp [gI,ku,nh,asNat],fun h' _=>⟨rfl,rfl⟩⟩
 |row b l h1 h2 h3=>
  refine ⟨.slice b (i*sz) (l.length-i) sz,fun q=>by simp [gI,ku,nh,asNat,hi],fun h' hx=>⟨by simp [ku],?_⟩⟩
  have h3':h'.get b=some (.cells (l.flatMap enc)):=by rw [hx.get b h2];exact h3
  have hl:(l.flatMap enc).length=l.length*sz:=gq he l
  have hm:(l.drop i).length=l.length-i:=by rw [List.length_drop]
  simp only [gY,h3',if_true,hl,hm]
  have hle:i*sz+(l.length-i)*sz≤l.length*sz:=by rw [← Nat.add_mul];exact Nat.mul_le_mul_right sz (by omega)
  rw [if_pos hle,B6 he,List.take_of_length_le]
  rw [gq he,hm];exact Nat.le_refl _
theorem qt(h1:∀ x,bN (enc x)=true):∀ l:List α,bN (l.flatMap enc)=true
 |[]=>rfl
 |x :: l=>by
  have app:∀ a b:List AV,bN a=true→bN b=true→bN (a++b)=true:=by
   intro a b ha hb
   induction a with
   |nil=>exact hb
   |cons y a ih=>
    simp only [bN,List.cons_append,Bool.and_eq_true] at ha ⊢
    exact ⟨ha.1,ih ha.2⟩
  rw [List.flatMap_cons]
  exact app _ _ (h1 x) (qt h1 l)
def de:AV→Option Nat
 |.slice b _ _ _=>some b
 |_=>none
theorem Own.append{h:ag}{a x:AV}{l m:List α}(o:Own enc sz k h a l)(he:∀ x,(enc x).length=sz)(h1:∀ x,bN (enc x)=true)(r:Row enc sz h x m)(hk:k≤h.next){bytes:Nat}(hroom:(l.length+m.length)*bytes≤cX) :
  ∃ a' h',cg sz bytes a x h=some (a',h')∧Own enc sz k h' a' (l++m)∧(∀ c,c<h.next→de a≠some c→h'.get c=h.get c)∧h.next≤h'.next∧(m≠[]→∀ c,de a'=some c→h.next≤c):=by
 cases o with
 |nil=>
  rw [List.length_nil,Nat.zero_add] at hroom
  cases m with
  |nil=>
   refine ⟨.nils,h,?_,.nil,fun _ _ _=>rfl,Nat.le_refl _,fun h=>absurd rfl h⟩
   have hc:=r.cells
   have hl:=r.len
   simp only [List.length_nil] at hc hl
   simp [cg,hl,hc]
  |cons y m=>
   refine ⟨.slice h.next 0 (y :: m).length sz,h.alloc (.cells ((y :: m).flatMap enc)),?_,.row _ _ hk (Nat.lt_succ_self _) (aB _ _),fun c hc _=>by rw [ag.bf,if_neg (by omega)],Nat.le_succ _,fun _ c hc=>by cases hc;exact Nat.le_refl _⟩
   have h0:¬ (y :: m).length=0:=by simp
   simp only [cg,r.len,r.cells,if_neg h0]
   rw [if_pos (by rw [Bool.and_eq_true];exact ⟨decide_eq_true hroom,qt h1 _⟩)]
 |row b l hb1 hb2 hb3=>
  cases m with
  |nil=>
   rw [List.append_nil]
   refine ⟨.slice b 0 l.length sz,h,?_,.row b l hb1 hb2 hb3,fun _ _ _=>rfl,Nat.le_refl _,fun h=>absurd rfl h⟩
   have hc:=r.cells
   have hl:=r.len
   simp only [List.length_nil] at hc hl
   simp [cg,hl,hc]
  |cons y m=>
   have h0:¬ (y :: m).length=0:=by simp
   have hl:(l.flatMap enc).length=l.length*sz:=gq he l
   refine ⟨.slice h.next 0 (l++y :: m).length sz,(h.set b .dead).alloc (.cells ((l++y :: m).flatMap enc)),?_,.row _ _ hk ?_ ?_,fun c hc hne=>?_,?_,fun _ c hc=>by cases hc;exact Nat.le_refl _⟩
   ·simp only [cg,r.len,r.cells,if_neg h0,if_true,hb3,List.drop_zero,Nat.zero_add]
    rw [if_pos (by rw [Bool.and_eq_true,Bool.and_eq_true];exact ⟨⟨decide_eq_true hroom,qt h1 _⟩,decide_eq_true (by omega)⟩),← hl,List.take_length,List.flatMap_append,List.length_append]
   ·rw [ag.next_alloc,ag.next_set];omega
   ·have:=aB (h.set b .dead) (.cells ((l++y :: m).flatMap enc))
    rwa [ag.next_set] at this
   ·rw [ag.bf,ag.next_set,if_neg (by omega),ag.aN,if_neg (fun e=>hne (by rw [e];rfl))]
   ·rw [ag.next_alloc,ag.next_set];omega
end
theorem mD(s:bG):bN (encS s)=true:=rfl
def strLt(a b:bG):Bool:=Op.bytesLess a b
def eF:List bG→bG→List bG
 |[],s=>[s]
 |x :: l,s=>if strLt x s=true then x :: eF l s else if x=s then x :: l else s :: x :: l
theorem Mm(a b:bG):aA .lss (.str a) (.str b)=some (.bool (strLt a b)):=by simp [aA,strLt]
theorem m6(a b:bG):(a==b)=decide (a=b):=by
 by_cases h:a=b
 ·subst h;simp
 ·rw [decide_eq_false h];simp [h]
theorem Et{l:List bG}{i:Nat}{x s:bG}(hx:l[i]?=some x):l.take i++eF (l.drop i) s=if strLt x s=true then l.take (i+1)++eF (l.drop (i+1)) s else if x=s then l else l.take i++(s :: l.drop i):=by
 have h1:=(List.getElem?_eq_some_iff.1 hx).1
 have hd:l.drop i=x :: l.drop (i+1):=by
  rw [List.drop_eq_getElem_cons h1]
  rw [List.getElem?_eq_getElem h1] at hx
  cases hx;rfl
 rw [hd,eF]
 split
 ·rw [List.take_add_one,hx];simp
 ·split
  ·rw [← hd,List.take_append_drop]
  ·rfl
theorem Own.ge{α:Type}{enc:α→List AV}{sz k:Nat}{h:ag}{a:AV}{l:List α}(o:Own enc sz k h a l){c:Nat}(hc:de a=some c):k≤c:=by
 cases o with
 |nil=>cases hc
 |row b l h1 _ _=>cases hc;exact h1
theorem Own.weak{α:Type}{enc:α→List AV}{sz k j:Nat}{h:ag}{a:AV}{l:List α}(o:Own enc sz k h a l)(hj:j≤k):Own enc sz j h a l:=by
 cases o with
 |nil=>exact .nil
 |row b l h1 h2 h3=>exact .row b l (Nat.le_trans hj h1) h2 h3
theorem dF{k:Nat}{h:ag}{a:AV}{l:List bG}{s:bG}(o:Own encS 1 k h a l)(hk:k≤h.next)(hl:l.length≤100000){K:Out→ag→Bool}
  (hK:∀ a' h',bJ h h'→Own encS 1 k h' a' (eF l s)→K (.ret a') h'=true):Sem Tryz.prog 86 [a,.str s] h K:=by
 have hbig:l.length≤cy:=by unfold cy;omega
 refine F.vq ?_
 have app:∀ i,i≤l.length→eF l s=l.take i++(s :: l.drop i)→∀ e:Env,e 0=a→e 1 = .str s→e 5 = .int .i64 (i:Int) →
   (af (fc [] [] []) fun c11=>
    af (gI (some 1) (e 0) none (some (e 5))) fun x12=>
    af (fc [(.str [])] [(0,1)] [(e 1)]) fun c13=>
    af (gI (some 1) (e 0) (some (e 5)) none) fun x14=>
    ct (cg 1 16 (.slice (ag.next h) 0 0 1) x12 (ag.alloc (ag.alloc h (.cells c11)) (.cells c13))) fun x15 h16=>
    ct (cg 1 16 x15 (.slice (ag.next (ag.alloc h (.cells c11))) 0 1 1) h16) fun x17 h18=>
    ct (cg 1 16 x17 x14 h18) fun x19 h20=>
    K (.ret x19) h20)=true:=by
  intro i hi he e e0 e1 e5
  obtain ⟨x12,hx12,r12⟩:=o.Mk gr hi
  obtain ⟨x14,hx14,r14⟩:=o.Ml gr hi
  rw [show fc [] [] []=some [] from rfl]
  simp only [bindO_some,e0,e1,e5,hx12,hx14]
  rw [show fc [(.str [])] [(0,1)] [.str s]=some [.str s] from rfl]
  simp only [bindO_some]
  have hx1:bJ h (ag.alloc (ag.alloc h (.cells [])) (.cells [.str s])):=(bJ.alloc _ _).trans (bJ.alloc _ _)
  have g0:(ag.alloc (ag.alloc h (.cells [])) (.cells [.str s])).get h.next=some (.cells []):=by
   rw [ag.bf,ag.next_alloc,if_neg (by omega)];exact aB _ _
  have g1:(ag.alloc (ag.alloc h (.cells [])) (.cells [.str s])).get (h.next+1)=some (.cells [.str s]):=aB _ _
  have gn:(ag.alloc (ag.alloc h (.cells [])) (.cells [.str s])).next=h.next+2:=rfl
  rw [ag.next_alloc]
  generalize (ag.alloc (ag.alloc h (.cells [])) (.cells [.str s]))=H at hx1 g0 g1 gn ⊢
  have o0:Own encS 1 h.next H (.slice h.next 0 0 1) ([]:List bG):=.row h.next [] (Nat.le_refl _) (by omega) g0
  have hm:cX=140737488355328:=rfl
  have lt:(l.take i).length=i:=by rw [List.length_take,Nat.min_eq_left hi]
  have ld:(l.drop i).length=l.length-i:=List.length_drop
  obtain ⟨a1,h1,p1,o1,f1,n1,_⟩:=o0.append gr mD (r12 H hx1) (by omega) (bytes:=16) (by rw [hm,lt,List.length_nil];omega)
  simp only [p1,bindO2_some]
  have q1:h1.get (h.next+1)=some (.cells [.str s]):=by rw [f1 _ (by omega) (by simp [de])];exact g1
  have rs:Row encS 1 h1 (.slice (h.next+1) 0 1 1) [s]:=⟨rfl,by simp [gY,q1,encS]⟩
  have e1x:bJ h h1:=⟨by have:=hx1.next;omega,fun c hc=>by rw [f1 c (by omega) (by simp [de];omega)];exact hx1.get c hc⟩
  obtain ⟨a2,h2,p2,o2,f2,n2,_⟩:=o1.append gr mD rs (by omega) (bytes:=16) (by rw [hm,List.nil_append,lt];simp;omega)
  simp only [p2,bindO2_some]
  have e2x:bJ h h2:=⟨by have:=e1x.next;omega,fun c hc=>by rw [f2 c (by have:=e1x.next;omega) (fun hb=>by have:=o1.ge hb;omega)];exact e1x.get c hc⟩
  obtain ⟨a3,h3,p3,o3,f3,n3,_⟩:=o2.append gr mD (r14 h2 e2x) (by have:=e2x.next;omega) (bytes:=16) (by rw [hm,ld,List.nil_append,List.length_append,lt];simp;omega)
  simp only [p3,bindO2_some]
  have e3x:bJ h h3:=⟨by have:=e2x.next;omega,fun c hc=>by rw [f3 c (by have:=e2x.next;omega) (fun hb=>by have:=o2.ge hb;omega)];exact e2x.get c hc⟩
  refine hK a3 h3 e3x ?_
  rw [he]
  have:=o3.weak hk
  rw [List.nil_append,List.append_assoc] at this
  exact this
 have get:∀ (i:Nat) (x:bG),l[i]?=some x→∃ b,(∀ q:IntKind,cS 1 a (.int q (i:Int))=some (.ptr b (i*1)))∧ai none (.ptr b (i*1)) h=some (.str x):=fun i x hx=>by
  obtain ⟨b,_,_,h3,_,h5⟩:=o.get gr hx
  exact ⟨b,h3,by have:=h5 0 (by omega);rw [Nat.add_zero] at this;rw [this];rfl⟩
 refine aC 0 l.length (Nat.zero_le _) (fun i e h'=>h'=h∧e 0=a∧e 1 = .str s∧e 5 = .int .i64 (i:Int)∧eF l s=l.take i++eF (l.drop i) s) ⟨rfl,rfl,rfl,rfl,rfl⟩ ?_ ?_
 ·rintro i e h' _ hi ⟨rfl,e0,e1,e5,ht⟩ K' hn hx hr hp
  have hv:l[i]?=some l[i]:=List.getElem?_eq_getElem hi
  generalize l[i]=x at hv
  obtain ⟨b,g1,g2⟩:=get i x hv
  rw [Et hv] at ht
  rw [F.dF.aO]
  simp only [e0,e1,e5,o.len,aU,Nat.reduceAdd,Nat.reduceEqDiff,reduceIte,bg hi,g1,g2,Mm]
  cases hlt:strLt x s with
  |true=>
   rw [if_pos hlt] at ht
   simp only [aJ,aI hi hbig,bindO_some]
   exact hn _ _ ⟨rfl,e0,e1,rfl,ht⟩
  |false=>
   rw [if_neg (by rw [hlt];decide)] at ht
   simp only [aG]
   rw [hx,F.dF.aD]
   simp only [aU,Nat.reduceAdd,Nat.reduceEqDiff,reduceIte,e0,e1,e5,o.len,bg hi,g1,g2,aJ,m6]
   by_cases hxs:x=s
   ·rw [if_pos hxs] at ht
    simp only [decide_eq_true hxs,aJ]
    exact hK _ _ (bJ.refl _) (by rw [ht];exact o)
   ·rw [if_neg hxs] at ht
    simp only [decide_eq_false hxs,aG]
    have:=app i (Nat.le_of_lt hi) ht e e0 e1 e5
    simp only [e0,e1,e5] at this
    exact this
 ·rintro e h' ⟨rfl,e0,e1,e5,ht⟩ K' hx
  rw [F.dF.aO]
  simp only [e0,e5,o.len,aU,Nat.reduceAdd,Nat.reduceEqDiff,reduceIte,aR]
  rw [hx,F.dF.aD]
  simp only [aU,Nat.reduceAdd,Nat.reduceEqDiff,reduceIte,e0,e1,e5,o.len,aR,aG]
  have:=app l.length (Nat.le_refl _) (by rw [ht,List.drop_of_length_le (Nat.le_refl _)];rfl) e e0 e1 e5
  simp only [e0,e1,e5] at this
  exact this
structure iV (es:List Entry) (ck:Nat):Prop where
 nodup:(es.map (·.2.2)).Nodup
 lt:∀ e ∈ es,e.2.2<ck
theorem iV.nil(ck:Nat):iV [] ck:=⟨List.nodup_nil,fun _ h=>by cases h⟩
theorem iV.push{es:List Entry}{ck:Nat}(b:iV es ck)(k v:AV):iV (es++[(k,v,ck)]) (ck+1):=by
 refine ⟨?_,fun e he=>?_⟩
 ·rw [List.map_append,List.nodup_append]
  refine ⟨b.nodup,by simp,fun a ha c hc=>?_⟩
  rw [List.mem_map] at ha
  obtain ⟨e,he,rfl⟩:=ha
  have:=b.lt e he
  simp at hc
  omega
 ·rw [List.mem_append] at he
  rcases he with he|he
  ·have:=b.lt e he;omega
  ·simp at he;rw [he];exact Nat.lt_succ_self _
theorem Eu(es:List Entry)(i:Nat)(v:AV):(eP es i v).map (·.2.2)=es.map (·.2.2):=by
 unfold eP
 cases h:es[i]? with
 |none=>rfl
 |some e=>
  simp only [List.map_set]
  apply List.ext_getElem?
  intro j
  by_cases hj:i=j
  ·subst hj
   have hi:=(List.getElem?_eq_some_iff.1 h).1
   rw [List.getElem?_set_self (by simpa using hi),List.getElem?_map,h];rfl
  ·rw [List.getElem?_set_ne hj]
theorem iV.set{es:List Entry}{ck:Nat}(b:iV es ck)(i:Nat)(v:AV):iV (eP es i v) ck:=by
 refine ⟨by rw [Eu];exact b.nodup,fun e he=>?_⟩
 have:e.2.2 ∈ (eP es i v).map (·.2.2):=List.mem_map_of_mem he
 rw [Eu,List.mem_map] at this
 obtain ⟨e',he',h⟩:=this
 rw [← h];exact b.lt e' he'
theorem se{d:TypeDesc}{b:Nat}{h h':ag}{es es':List Entry}{ck ck':Nat}{k v:AV}(hb:h.get b=some (.map es ck))(hB:iV es ck)(hu:ep d (.map b) k v h=some h')(hg:h'.get b=some (.map es' ck')):iV es' ck':=by
 simp only [ep,hb] at hu
 split at hu
 ·cases hu
  rw [ag.aN,if_pos rfl] at hg
  cases hg
  exact hB.set _ _
 ·cases hu
  rw [ag.aN,if_pos rfl] at hg
  cases hg
  exact hB.push k v
 ·cases hu
abbrev kF:=List (bG×AV)
def kF.find(m:kF)(k:bG):Option AV:=(List.find? (fun p=>k==p.1) m).map (·.2)
def kF.oz:kF→bG→AV→kF
 |[],k,v=>[(k,v)]
 |p :: m,k,v=>if k==p.1 then (p.1,v) :: m else p :: kF.oz m k v
def qu:List Entry→kF→Prop
 |[],[]=>True
 |e :: es,p :: m=>e.1 = .str p.1∧e.2.1=p.2∧qu es m
 |_,_=>False
theorem qu.iC{k:bG}:∀ {es:List Entry} {m:kF} (i:Nat),qu es m→∃ r,iC .string (.str k) es i=some r∧match r with
  |none=>m.find k=none
  |some (j,v)=>∃ n,j=i+n∧m.find k=some v∧∀ w,qu (eP es n w) (m.oz k w)
 |[],[],i,_=>⟨none,rfl,rfl⟩
 |e :: es,p :: m,i,⟨h1,h2,h3⟩=>by
  obtain ⟨ek,ev,en⟩:=e
  simp only at h1 h2
  subst h1;subst h2
  by_cases hk:k=p.1
  ·subst hk
   refine ⟨some (i,p.2),by simp [Go.AM.iC,rX],0,rfl,by simp [kF.find],fun w=>?_⟩
   simp [eP,qu,kF.oz,h3]
  ·obtain ⟨r,hr,hm⟩:=qu.iC (k:=k) (i+1) h3
   have hkb:(k==p.1)=false:=by simpa using hk
   refine ⟨r,by simp only [Go.AM.iC,rX,hkb,hr],?_⟩
   cases r with
   |none=>simpa [kF.find,hk] using hm
   |some jv=>
    obtain ⟨n,a,b,e⟩:=hm
    refine ⟨n+1,by omega,by simpa [kF.find,hk] using b,fun w=>?_⟩
    have:=e w
    simp only [eP,List.getElem?_cons_succ,kF.oz,hkb] at this ⊢
    split at this<;>simp_all [qu]
theorem qu.append{es:List Entry}{m:kF}(h:qu es m){k:bG}(hk:m.find k=none)(v:AV)(n:Nat):qu (es++[(.str k,v,n)]) (m.oz k v):=by
 induction es generalizing m with
 |nil=>cases m with
  |nil=>simp [qu,kF.oz]
  |cons p m=>exact h.elim
 |cons e es ih=>cases m with
  |nil=>exact h.elim
  |cons p m=>
   obtain ⟨h1,h2,h3⟩:=h
   have hne:k≠p.1:=fun e=>by subst e;simp [kF.find] at hk
   have hk':kF.find m k=none:=by simpa [kF.find,hne] using hk
   have:=ih h3 hk'
   simp only [List.cons_append,kF.oz]
   rw [if_neg (by simpa using hne)]
   exact ⟨h1,h2,this⟩
theorem qv{k:Nat}{h:ag}{a:AV}{l:List bG}(o:Own encS 1 k h a l){i:Nat}{x:bG}(hx:l[i]?=some x) :
  ∃ b,b<h.next∧(∀ q:IntKind,cS 1 a (.int q (i:Int))=some (.ptr b (i*1)))∧ai none (.ptr b (i*1)) h=some (.str x):=by
 obtain ⟨b,_,h2,h3,_,h5⟩:=o.get gr hx
 exact ⟨b,h2,h3,by have:=h5 0 (by omega);rw [Nat.add_zero] at this;rw [this];rfl⟩
theorem uB{α:Type}{p:α→Bool}{l:List α}{i:Nat}{a:α}(ha:l[i]?=some a)(ht:(l.take i).any p=false)(hp:p a=false):(l.take (i+1)).any p=false:=by
 rw [List.take_add_one,ha];simp [ht,hp]
theorem cR{k:Nat}{h:ag}{a:AV}{l:List bG}{s:bG}(o:Own encS 1 k h a l)(hl:l.length≤cy){K:Out→ag→Bool}(hK:K (.ret (.bool (l.any fun x=>x==s))) h=true):Sem Tryz.prog 73 [a,.str s] h K:=by
 refine F.oZ ?_
 refine aC 0 l.length (Nat.zero_le _) (fun i e h'=>h'=h∧e 0=a∧e 1 = .str s∧e 5 = .int .i64 (i:Int)∧((l.take i).any fun x=>x==s)=false) ⟨rfl,rfl,rfl,rfl,rfl⟩ ?_ ?_
 ·rintro i e h' _ hi ⟨rfl,e0,e1,e5,ht⟩ K' hn hx hr hp
  have hv:l[i]?=some l[i]:=List.getElem?_eq_getElem hi
  generalize l[i]=x at hv
  obtain ⟨b,_,g1,g2⟩:=qv o hv
  rw [F.cR.aO]
  simp only [e0,e1,e5,o.len,aU,Nat.reduceAdd,Nat.reduceEqDiff,reduceIte,bg hi,g1,g2]
  cases hq:x==s with
  |true=>
   simp only [aJ]
   rw [hr,F.cR.bt]
   simp only [bH,Nat.reduceEqDiff,reduceIte]
   rw [List.any_eq_true.2 ⟨x,List.mem_of_getElem? hv,hq⟩] at hK
   exact hK
  |false=>
   simp only [aG,aI hi hl,bindO_some]
   exact hn _ _ ⟨rfl,e0,e1,rfl,uB hv ht hq⟩
 ·rintro e h' ⟨rfl,e0,e1,e5,ht⟩ K' hx
  rw [F.cR.aO]
  simp only [e0,e5,o.len,aU,Nat.reduceAdd,Nat.reduceEqDiff,reduceIte,aR]
  rw [hx,F.cR.aD]
  rw [List.take_of_length_le (Nat.le_refl _)] at ht
  rw [ht] at hK;exact hK
theorem Own.push{α:Type}{enc:α→List AV}{sz k:Nat}{h:ag}{a:AV}{l:List α}(o:Own enc sz k h a l)(he:∀ x,(enc x).length=sz)(h1:∀ x,bN (enc x)=true)(hk:k≤h.next){bytes:Nat}(hroom:(l.length+1)*bytes≤cX)(v:α) :
  ∃ a' h',cg sz bytes a (.slice h.next 0 1 sz) (h.alloc (.cells (enc v)))=some (a',h')∧Own enc sz k h' a' (l++[v])∧(∀ c,c<h.next→de a≠some c→h'.get c=h.get c)∧h.next≤h'.next∧(∀ h0,bJ h0 h→h0.next≤k→bJ h0 h')∧∀ c,de a'=some c→h.next≤c:=by
 have g:=aB h (.cells (enc v))
 have hn:(h.alloc (.cells (enc v))).next=h.next+1:=ag.next_alloc h _
 have hx:bJ h (h.alloc (.cells (enc v))):=bJ.alloc _ _
 have r:Row enc sz (h.alloc (.cells (enc v))) (.slice h.next 0 1 sz) [v]:=by
  refine ⟨rfl,?_⟩
  have hl:(enc v).length=sz:=he v
  simp only [gY,g,if_true,List.length_singleton,Nat.one_mul,Nat.zero_add,hl,Nat.le_refl,List.drop_zero]
  rw [← hl,List.take_length];simp
 obtain ⟨a',h',p,o',f,n,hf⟩:=(o.ext hx).append he h1 r (by omega) (bytes:=bytes) (by simpa using hroom)
 have f':∀ c,c<h.next→de a≠some c→h'.get c=h.get c:=fun c hc hb=>by rw [f c (by omega) hb];exact hx.get c hc
 refine ⟨a',h',p,o',f',by omega,fun h0 e0 hk0=>⟨by have:=e0.next;omega,fun c hc=>?_⟩,fun c hc=>by have:=hf (by simp) c hc;omega⟩
 rw [f' c (by have:=e0.next;omega) (fun hb=>by have:=o.ge hb;omega)]
 exact e0.get c hc
def lG(y:bG×Int):List AV:=[.str y.1,.int .i64 y.2]
theorem mE(y:bG×Int):(lG y).length=2:=rfl
theorem Jy(s:bG)(n:Int):gw [.str [],.int .i64 0] [(0,1),(1,1)] [.str s,.int .i64 n]=some (.agg (lG (s,n))):=rfl
theorem Jz(y:bG×Int):fc [.str [],.int .i64 0] [(0,2)] [.agg (lG y)]=some (lG y):=rfl
theorem Own.FX{α:Type}{enc:α→List AV}{sz k:Nat}{h:ag}{a:AV}{l:List α}(o:Own enc sz k h a l)(hf:∀ v,∀ x ∈ enc v,Fz true h x x):∃ x:Sl α,x.l=l∧Fz true h a (aq enc sz x):=by
 cases o with
 |nil=>exact ⟨none,rfl,.dS rfl⟩
 |row b l h1 h2 h3=>
  refine ⟨some l,rfl,.slice b 0 l.length sz _ _ h3 rfl fun i x y hx hy=>?_⟩
  rw [hx] at hy
  cases hy
  have:=List.mem_of_getElem? hx
  rw [List.mem_flatMap] at this
  obtain ⟨v,hv,hxv⟩:=this
  exact hf v x hxv
theorem Own.nr{α:Type}{enc:α→List AV}{sz k:Nat}{h:ag}{a:AV}{l:List α}(o:Own enc sz k h a l){d:Nat}(hd:d<k)(x:jj):Own enc sz k (h.set d x) a l:=by
 cases o with
 |nil=>exact .nil
 |row b _ w1 w2 w3=>exact .row b l w1 (by rw [ag.next_set];exact w2) (by rw [ag.aN,if_neg (by omega)];exact w3)
theorem rE(m:dJ)(k j:bG)(v:Int):(m.oz k v).find j=if j=k then some v else m.find j:=by
 induction m with
 |nil=>
  simp only [dJ.oz,dJ.find,List.find?_cons,List.find?_nil]
  by_cases h:j=k
  ·subst h;simp
  ·have:(j==k)=false:=by simpa using h
   rw [this,if_neg h]
 |cons p m ih=>
  simp only [dJ.oz]
  by_cases hk:k=p.1
  ·rw [if_pos (by simpa using hk)]
   subst hk
   simp only [dJ.find,List.find?_cons]
   by_cases h:j=p.1
   ·subst h;simp
   ·have:(j==p.1)=false:=by simpa using h
    rw [this,if_neg h]
  ·rw [if_neg (by simpa using hk)]
   simp only [dJ.find,List.find?_cons] at ih ⊢
   by_cases h:j=p.1
   ·subst h
    simp only [beq_self_eq_true,Option.map_some]
    rw [if_neg (Ne.symm hk)]
   ·have:(j==p.1)=false:=by simpa using h
    rw [this]
    exact ih
theorem Ev(m:dJ)(k:bG)(v:Int):(m.oz k v).map (·.1)=if k ∈ m.map (·.1) then m.map (·.1) else m.map (·.1)++[k]:=by
 induction m with
 |nil=>simp [dJ.oz]
 |cons p m ih=>
  simp only [dJ.oz]
  by_cases hk:k=p.1
  ·rw [if_pos (by simpa using hk)]
   subst hk;simp
  ·rw [if_neg (by simpa using hk),List.map_cons,ih]
   by_cases hm:k ∈ m.map (·.1)
   ·rw [if_pos hm,if_pos (by rw [List.map_cons];exact List.mem_cons_of_mem _ hm)];rfl
   ·rw [if_neg hm,if_neg (by rw [List.map_cons,List.mem_cons];exact fun h=>h.elim hk hm)];rfl
theorem B7{m:dJ}(hm:(m.map (·.1)).Nodup)(k:bG)(v:Int):((m.oz k v).map (·.1)).Nodup:=by
 rw [Ev]
 split
 ·exact hm
 ·rename_i h
  rw [List.nodup_append]
  exact ⟨hm,by simp,fun a ha b hb=>by simp at hb;subst hb;exact fun e=>h (e▸ha)⟩
theorem nO{m:dJ}{k:bG}{v:Int}(h:m.find k=some v):(k,v) ∈ m:=by
 unfold dJ.find at h
 obtain ⟨p,hp,rfl⟩:=Option.map_eq_some_iff.1 h
 have h1:=List.mem_of_find?_eq_some hp
 have h2:=List.find?_some hp
 simp only [beq_iff_eq] at h2
 subst h2;exact h1
theorem rF{m:dJ}(hm:(m.map (·.1)).Nodup){p:bG×Int}(hp:p ∈ m):m.find p.1=some p.2:=by
 induction m with
 |nil=>cases hp
 |cons q m ih=>
  rw [List.map_cons,List.nodup_cons] at hm
  simp only [dJ.find,List.find?_cons]
  rcases List.mem_cons.1 hp with rfl|hp
  ·simp
  ·have:(p.1==q.1)=false:=by
    simp only [beq_eq_false_iff_ne]
    exact fun e=>hm.1 (e▸List.mem_map_of_mem hp)
   rw [this]
   exact ih hm.2 hp
theorem jb.mem:∀ {es:List Entry} {m:dJ},jb es m→∀ e ∈ es,∃ p ∈ m,e.1 = .str p.1∧e.2.1 = .int .i64 p.2
 |[],_,_,e,he=>by cases he
 |e0 :: es,[],h,_,_=>h.elim
 |e0 :: es,p :: m,⟨h1,h2,h3⟩,e,he=>by
  rcases List.mem_cons.1 he with rfl|he
  ·exact ⟨p,List.mem_cons_self,h1,h2⟩
  ·obtain ⟨q,hq,r⟩:=jb.mem h3 e he
   exact ⟨q,List.mem_cons_of_mem _ hq,r⟩
theorem kG{h:ag}{z v:AV}(h1:v.dM = [v])(hv:bN [v]=true):∃ h',bp 1 (.ptr h.next 0) v (h.alloc (.cells [z]))=some h'∧h'.get h.next=some (.cells [v])∧(∀ b,b≠h.next→h'.get b=h.get b)∧h'.next=h.next+1:=by
 refine ⟨_,by rw [cT (n:=1) (aB _ _) (by rw [h1];rfl) (by rw [h1];exact hv) (by simp),h1],?_,fun b hb=>?_,by rw [ag.next_set,ag.next_alloc]⟩
 ·rw [ag.aN,if_pos rfl];rfl
 ·rw [ag.aN,if_neg hb,ag.bf,if_neg hb]
theorem oK{x s:bG}:∀ {l:List bG},x ∈ eF l s↔x ∈ l∨x=s
 |[]=>by simp [eF]
 |a :: l=>by
  rw [eF]
  split
  ·rw [List.mem_cons,oK (l:=l),List.mem_cons,or_assoc]
  ·split
   ·rename_i h;subst h
    rw [List.mem_cons]
    exact ⟨fun h=>.inl h,fun h=>h.elim id .inl⟩
   ·rw [List.mem_cons];exact Or.comm
theorem Fz.FY{old:Bool}{h:ag}{v r:AV}(hr:r.scalar=true)(hf:Fz old h v r):v=r:=by
 cases hf<;>first|rfl|(simp [AV.scalar] at hr)
theorem Sem.M1{P:Program}{f:FuncId}{args args':List AV}{r:AV}{h:ag}{K:Out→ag→Bool}(hr:r.scalar=true)(hs:Sem P f args' ag.empty (mR r))(hp:jB true h args args')(hK:K (.ret r) h=true):Sem P f args h K:=
 hs.KH hp fun o h' ho=>by
  obtain ⟨v,rfl,hf⟩:=cD.1 ho
  obtain rfl:=hf.FY hr
  exact ⟨_,_,rfl,.scalar _ hr,hK⟩
theorem oL{old:Bool}{d:List Int}{h:ag}{b:Nat}(hb:h.get b=some (.cells (d.map iv))):Fz old h (.slice b 0 d.length 1) (aq encI 1 (some d)):=by
 refine .slice b 0 d.length 1 _ _ hb (by rw [oJ]) fun i x y hx hy=>?_
 rw [oJ,hy] at hx
 cases hx
 rw [← oJ,List.getElem?_map] at hy
 obtain ⟨v,hv,rfl⟩:=Option.map_eq_some_iff.1 hy
 exact .scalar _ rfl
theorem Own.lt{α:Type}{enc:α→List AV}{sz k:Nat}{h:ag}{a:AV}{l:List α}(o:Own enc sz k h a l){c:Nat}(hc:de a=some c):c<h.next:=by
 cases o with
 |nil=>cases hc
 |row b l h1 h2 h3=>cases hc;exact h2
theorem Dd{α:Type}[BEq α][LawfulBEq α]{l m:List α}{i:Nat}{a b:α}(ha:l[i]?=some a)(hb:m[i]?=some b):(l.drop i==m.drop i)=((a==b)&&(l.drop (i+1)==m.drop (i+1))):=by
 have h1:=(List.getElem?_eq_some_iff.1 ha).1
 have h2:=(List.getElem?_eq_some_iff.1 hb).1
 rw [List.drop_eq_getElem_cons h1,List.drop_eq_getElem_cons h2]
 rw [List.getElem?_eq_getElem h1] at ha
 rw [List.getElem?_eq_getElem h2] at hb
 cases ha;cases hb;rfl
theorem dO{x y:Sl Int}(hx:x.l.length≤cy){h:ag}{K:Out→ag→Bool}(hK:K (.ret (.bool (x.l==y.l))) h=true):Sem Tryz.prog 35 [aq encI 1 x,aq encI 1 y] h K:=by
 refine F.xE ?_
 simp only [aU,Nat.reduceAdd,Nat.reduceEqDiff,reduceIte,cQ]
 by_cases hl:x.l.length=y.l.length
 ·simp only [decide_eq_true (by omega:(x.l.length:Int)=(y.l.length:Int)),Bool.not_true,aG]
  refine aC 0 x.l.length (Nat.zero_le _) (fun i e h'=>h'=h∧e 0=aq encI 1 x∧e 1=aq encI 1 y∧e 5 = .int .i64 (i:Int)∧(x.l==y.l)=(x.l.drop i==y.l.drop i)) ⟨rfl,rfl,rfl,rfl,rfl⟩ ?_ ?_
  ·rintro i e h' _ hi ⟨rfl,e0,e1,e5,ht⟩ K' hn hx' hr hp
   have hi2:i<y.l.length:=by omega
   have hv:x.l[i]?=some x.l[i]:=List.getElem?_eq_getElem hi
   have hw:y.l[i]?=some y.l[i]:=List.getElem?_eq_getElem hi2
   rw [Dd hv hw] at ht
   generalize x.l[i]=a at hv ht
   generalize y.l[i]=b at hw ht
   rw [F.dO.aO]
   simp only [e0,e1,e5,aU,Nat.reduceAdd,Nat.reduceEqDiff,reduceIte,bg hi,aW x hi,aW y hi2,fN hv,fN hw]
   cases hq:a==b with
   |false=>
    simp only [Bool.not_false,aJ]
    rw [hr,F.dO.bt]
    simp only [bH,Nat.reduceEqDiff,reduceIte]
    rw [ht,hq] at hK;exact hK
   |true=>
    simp only [Bool.not_true,aG,aI hi hx,bindO_some]
    exact hn _ _ ⟨rfl,e0,e1,rfl,by rw [ht,hq,Bool.true_and]⟩
  ·rintro e h' ⟨rfl,e0,e1,e5,ht⟩ K' hx'
   rw [F.dO.aO]
   simp only [e0,e5,aU,Nat.reduceAdd,Nat.reduceEqDiff,reduceIte,aR]
   rw [hx',F.dO.aD]
   rw [List.drop_of_length_le (Nat.le_refl _),List.drop_of_length_le (by omega)] at ht
   rw [ht] at hK;exact hK
 ·simp only [decide_eq_false (by omega:¬ (x.l.length:Int)=(y.l.length:Int)),Bool.not_false,aJ]
  have:(x.l==y.l)=false:=by
   simp only [beq_eq_false_iff_ne];exact fun e=>hl (congrArg List.length e)
  rw [this] at hK;exact hK
theorem l7:∀ a:bG,strLt a a=false
 |[]=>rfl
 |x :: a=>by
  have:=l7 a
  unfold strLt at this ⊢
  simp [Op.bytesLess,this]
theorem qw:∀ {a b c:bG},strLt a b=true→strLt b c=true→strLt a c=true
 |_,[],_,h,_=>by unfold strLt at h;simp [Op.bytesLess] at h
 |_,_ :: _,[],_,h=>by unfold strLt at h;simp [Op.bytesLess] at h
 |[],_ :: _,_ :: _,_,_=>rfl
 |x :: a,y :: b,z :: c,h1,h2=>by
  have ih:=@qw a b c
  unfold strLt at h1 h2 ih ⊢
  simp only [Op.bytesLess,Bool.or_eq_true,decide_eq_true_eq,Bool.and_eq_true,beq_iff_eq] at h1 h2 ⊢
  rcases h1 with h1|⟨rfl,h1⟩<;>rcases h2 with h2|⟨rfl,h2⟩
  ·exact .inl (UInt8.lt_trans h1 h2)
  ·exact .inl h1
  ·exact .inl h2
  ·exact .inr ⟨rfl,ih h1 h2⟩
theorem vN:∀ {a b:bG},strLt a b=false→a≠b→strLt b a=true
 |[],[],_,h=>absurd rfl h
 |[],_ :: _,h,_=>by unfold strLt at h;simp [Op.bytesLess] at h
 |_ :: _,[],_,_=>rfl
 |x :: a,y :: b,h1,h2=>by
  have ih:=@vN a b
  unfold strLt at h1 ih ⊢
  simp only [Op.bytesLess,Bool.or_eq_false_iff,decide_eq_false_iff_not,Bool.and_eq_false_iff,beq_eq_false_iff_ne] at h1
  simp only [Op.bytesLess,Bool.or_eq_true,decide_eq_true_eq,Bool.and_eq_true,beq_iff_eq]
  obtain ⟨h3,h4⟩:=h1
  by_cases e:x=y
  ·subst e
   rcases h4 with h4|h4
   ·exact absurd rfl h4
   ·exact .inr ⟨rfl,ih h4 (fun h=>h2 (by rw [h]))⟩
  ·refine .inl ?_
   rcases UInt8.lt_or_lt_of_ne e with h|h
   ·exact absurd h h3
   ·exact h
theorem Nz:∀ {a b:bG},leB a b=true→a≠b→strLt a b=true:=fun {a b} h hne=>by
 cases hs:strLt a b with
 |true=>rfl
 |false=>
  exfalso
  have key:∀ {a b:bG},strLt b a=true→b<a:=by
   intro a
   induction a with
   |nil=>intro b h;unfold strLt at h;cases b<;>simp [Op.bytesLess] at h
   |cons x a ih=>
    intro b h
    cases b with
    |nil=>exact List.nil_lt_cons _ _
    |cons y b=>
     unfold strLt at h
     simp only [Op.bytesLess,Bool.or_eq_true,decide_eq_true_eq,Bool.and_eq_true,beq_iff_eq] at h
     rcases h with h|⟨rfl,h⟩
     ·exact List.cons_lt_cons_iff.2 (.inl h)
     ·exact List.cons_lt_cons_iff.2 (.inr ⟨rfl,ih h⟩)
  have h1:=key (vN hs hne)
  have h2:a≤b:=of_decide_eq_true h
  exact absurd h1 (List.not_lt.2 h2)
def pe(l:List bG):Prop:=l.Pairwise fun a b=>strLt a b=true
theorem sg:∀ {l m:List bG},pe l→pe m→(∀ x,x ∈ l↔x ∈ m)→l=m
 |[],[],_,_,_=>rfl
 |[],y :: m,_,_,h=>by have:=(h y).2 List.mem_cons_self;cases this
 |x :: l,[],_,_,h=>by have:=(h x).1 List.mem_cons_self;cases this
 |x :: l,y :: m,hl,hm,h=>by
  obtain ⟨l1,l2⟩:=List.pairwise_cons.1 hl
  obtain ⟨m1,m2⟩:=List.pairwise_cons.1 hm
  have hxy:x=y:=by
   rcases List.mem_cons.1 ((h x).1 List.mem_cons_self) with e|e
   ·exact e
   ·rcases List.mem_cons.1 ((h y).2 List.mem_cons_self) with e'|e'
    ·exact e'.symm
    ·have:=qw (m1 x e) (l1 y e')
     rw [l7] at this;cases this
  subst hxy
  rw [sg l2 m2 fun z=>?_]
  constructor
  ·intro hz
   rcases List.mem_cons.1 ((h z).1 (List.mem_cons_of_mem _ hz)) with e|e
   ·subst e;have:=l1 z hz;rw [l7] at this;cases this
   ·exact e
  ·intro hz
   rcases List.mem_cons.1 ((h z).2 (List.mem_cons_of_mem _ hz)) with e|e
   ·subst e;have:=m1 z hz;rw [l7] at this;cases this
   ·exact e
theorem si:∀ {l:List bG},pe l→∀ s,pe (eF l s)
 |[],_,s=>List.pairwise_singleton _ _
 |x :: l,h,s=>by
  obtain ⟨h1,h2⟩:=List.pairwise_cons.1 h
  rw [eF]
  split
  ·rename_i hx
   refine List.pairwise_cons.2 ⟨fun y hy=>?_,si h2 s⟩
   rcases oK.1 hy with hy|rfl
   ·exact h1 y hy
   ·exact hx
  ·rename_i hx
   split
   ·exact h
   ·rename_i hne
    have hsx:strLt s x=true:=vN (by simpa using hx) hne
    refine List.pairwise_cons.2 ⟨fun y hy=>?_,h⟩
    rcases List.mem_cons.1 hy with rfl|hy
    ·exact hsx
    ·exact qw hsx (h1 y hy)
theorem B8{ck:Nat}:∀ {es:List Entry},(∀ e ∈ es,(∃ s,e.1 = .str s∧s.length≤1000)∧e.2.2<ck)→(es.map keyBytes).Nodup→(es.map (·.2.2)).Nodup→oB ck es=true
 |[],_,_,_=>rfl
 |e :: es,h,h1,h2=>by
  rw [List.map_cons,List.nodup_cons] at h1 h2
  obtain ⟨⟨s,hs,hl⟩,hc⟩:=h e List.mem_cons_self
  have ih:=B8 (ck:=ck) (es:=es) (fun f hf=>h f (List.mem_cons_of_mem _ hf)) h1.2 h2.2
  have hb:Nat.ble s.length 140737488351232=true:=Nat.ble_eq_true_of_le (by omega)
  have hc':Nat.ble (e.2.2+1) ck=true:=Nat.ble_eq_true_of_le hc
  have hall:es.all (fun f=>!(keyBytes e==keyBytes f)&&!(Nat.beq e.2.2 f.2.2))=true:=by
   rw [List.all_eq_true]
   intro f hf
   have q1:(keyBytes e==keyBytes f)=false:=by
    simp only [beq_eq_false_iff_ne]
    exact fun q=>h1.1 (by rw [q];exact List.mem_map_of_mem hf)
   have q2:Nat.beq e.2.2 f.2.2=false:=by
    cases hq:Nat.beq e.2.2 f.2.2 with
    |false=>rfl
    |true=>exact absurd (by rw [Nat.eq_of_beq_eq_true hq];exact List.mem_map_of_mem hf) h2.1
   rw [q1,q2];rfl
  simp only [oB,hs,isStr,hb,hc',hall,ih,Bool.and_self]
theorem keys_map{M:Nat}{h:ag}{K:Out→ag→Bool}(hK:K (.ret (.func 114 [] [.ptr h.next 0])) (h.alloc (.box (.map M)))=true):Sem Tryz.prog 50 [.map M] h K:=
 ug.sem (f:=50) (g:=G1 114) rfl hK
theorem FZ{M b:Nat}{es:List Entry}{ck:Nat}{h:ag}{K:Out→ag→Bool}(hb:h.get b=some (.box (.map M)))(hM:h.get M=some (.map es ck))(hok:oB ck es=true)(hlen:es.length≤1000000)
  (hK:∀ a h',bJ h h'→Own encS 1 h.next h' a (nJ (es.map keyBytes))→K (.ret a) h'=true):Sem Tryz.prog 49 [.func 114 [] [.ptr b 0]] h K:=by
 refine ug.sem (f:=49) (g:=rB 114) rfl ?_
 have hl:Nat.ble (es.length*16) 140737488355328=true:=Nat.ble_eq_true_of_le (by omega)
 have h2:rB 114 [.func 114 [] [.ptr b 0]] h K=true:=by
  simp only [rB,hb,hM,hok,hl,Bool.true_and]
  rw [show Nat.beq 114 114=true from rfl,Bool.true_and]
  generalize nJ (es.map keyBytes)=ns at hK ⊢
  cases ns with
  |nil=>exact hK _ _ (bJ.refl _) .nil
  |cons k ks=>
   have e:(k :: ks).map AV.str=(k :: ks).flatMap encS:=by
    generalize (k :: ks)=l
    induction l with
    |nil=>rfl
    |cons x l ih=>rw [List.map_cons,List.flatMap_cons,ih];rfl
   refine hK _ _ (bJ.alloc _ _) ?_
   rw [e]
   exact .row _ (k :: ks) (Nat.le_refl _) (Nat.lt_succ_self _) (aB _ _)
 exact h2
theorem De{l:List bG}(hn:l.Nodup):pe (nJ l)∧∀ x,x ∈ nJ l↔x ∈ l:=by
 refine ⟨?_,fun x=>(mA l).mem_iff⟩
 have h1:=oC l
 have h2:(nJ l).Nodup:=(mA l).nodup_iff.2 hn
 unfold pe
 unfold List.Nodup at h2
 exact (h1.and h2).imp fun {a b} h=>Nz h.1 h.2
theorem qy{b:Nat}{h:ag}{es:List Entry}{ck:Nat}{m:dJ}(hb:h.get b=some (.map es ck))(hm:jb es m)(k:bG) :
  dz .string (.int .i64 0) false (.map b) (.str k) h=some (.int .i64 ((m.find k).getD 0)):=by
 obtain ⟨r,hr,hm'⟩:=jb.iC (k:=k) 0 hm
 simp only [dz,jT,hb,nB,nA,if_true,hr]
 cases r with
 |none=>simp at hm';simp [hm']
 |some jv=>
  obtain ⟨n,q,_,b,c,_⟩:=hm'
  obtain ⟨j,v⟩:=jv
  simp only at c
  subst c
  simp [b]
theorem G5:∀ {es:List Entry} {m:dJ},jb es m→es.map keyBytes=m.map (·.1)
 |[],[],_=>rfl
 |e :: es,p :: m,⟨h1,_,h3⟩=>by
  obtain ⟨ek,ev⟩:=e
  simp only at h1
  subst h1
  rw [List.map_cons,List.map_cons,G5 h3];rfl
end
end Go.AM
namespace Go.AM
open Go Go.Proofs
noncomputable section
theorem yH{α:Type}{enc:α→List AV}{sz:Nat}(he:∀ a,(enc a).length=sz)(x:Sl α)(h:ag):Row enc sz h (aq enc sz x) x.l:=by
 cases x with
 |none=>exact ⟨rfl,rfl⟩
 |some l=>
  refine ⟨rfl,?_⟩
  have hl:(l.flatMap enc).length=l.length*sz:=gq he l
  simp only [aq,gY,Sl.l_some,Nat.zero_add,hl,beq_self_eq_true,Nat.le_refl,decide_true,Bool.and_self,if_true,List.drop_zero]
  rw [← hl,List.take_length]
structure eX where
 kind:Int
 neg:Bool
 name:bG
 args:Sl bG
structure aE where
 name:bG
 args:Sl bG
 body:Sl eX
def bY(c:eX):List AV:=[.int .i64 c.kind,.bool c.neg,.str c.name,aq encS 1 c.args]
def gK(nm:bG)(xs:Sl bG):List AV:=[.str nm,aq encS 1 xs]
def aM(r:aE):List AV:=[.str r.name,aq encS 1 r.args,aq bY 4 r.body]
theorem gL(c:eX):(bY c).length=4:=rfl
theorem fK(r:aE):(aM r).length=3:=rfl
theorem Ai(c:eX):AV.pureL (bY c)=true:=by simp [bY,AV.pureL,AV.pure,b8 gj]
theorem eM(r:aE):AV.pureL (aM r)=true:=by simp [aM,AV.pureL,AV.pure,b8 gj,b8 Ai]
theorem vO(nm:bG)(xs:Sl bG):bN (gK nm xs)=true:=by
 unfold gK;simp only [bN,ja,Bool.and_true];rfl
theorem gN(c:eX):bN (bY c)=true:=by
 unfold bY;simp only [bN,ja,Bool.and_true];rfl
theorem iz(r:aE):bN (aM r)=true:=by
 unfold aM;simp only [bN,ja,Bool.and_true];rfl
def eX.ok(c:eX):Prop:=c.name.length≤cy∧c.args.l.length≤cy∧∀ s ∈ c.args.l,s.length≤cy
def aE.ok(r:aE):Prop:=r.name.length≤cy∧r.args.l.length≤cy∧(∀ s ∈ r.args.l,s.length≤cy)∧r.body.l.length≤cy∧∀ c ∈ r.body.l,c.ok
theorem G6(a b c d:AV):gW (some 2) [a,b,c,d] 2=some (.agg [c,d]):=rfl
theorem G7(a b c:AV):gW (some 2) [a,b,c] 0=some (.agg [a,b]):=rfl
theorem Df(a b c d:AV):gW (some 4) [a,b,c,d] 0=some (.agg [a,b,c,d]):=rfl
theorem lX(a b c:AV):gW (some 3) [a,b,c] 0=some (.agg [a,b,c]):=rfl
theorem gO{x:Sl bG}{i:Nat}{v:bG}(hv:x.l[i]?=some v){h:ag}:ai none (.iptr (x.l.flatMap encS) (i*1)) h=some (.str v):=by
 rw [ou gr hv];rfl
theorem By{x:Sl bG}(hx:x.l.length≤cy){g:FuncId}{a b:List AV}{h:ag}{p:bG→Bool}(hp:∀ (v:bG) (K:Out→ag→Bool),K (.ret (.bool (p v))) h=true→Sem Tryz.prog g (a++([.str v]++b)) h K)
  {K:Out→ag→Bool} (hK:∀ n:Int,decide (0≤n)=x.l.any p→K (.ret (.int .i64 n)) h=true):Sem Tryz.prog 190 [aq encS 1 x,.func g a b] h K:=by
 refine F.jl ?_
 simp only [aU,Nat.reduceAdd,Nat.reduceEqDiff,reduceIte]
 refine aC 0 x.l.length (Nat.zero_le _) (fun i e h'=>h'=h∧e 0=aq encS 1 x∧e 1 = .func g a b∧e 7 = .int .i64 (x.l.length:Int)∧e 8 = .int .i64 (i:Int)∧(x.l.take i).any p=false) ⟨rfl,rfl,rfl,rfl,rfl,rfl⟩ ?_ ?_
 ·rintro i e h' _ hi ⟨rfl,e0,e1,e7,e8,ht⟩ K' hn hx' hr hp'
  have hv:x.l[i]?=some x.l[i]:=List.getElem?_eq_getElem hi
  rw [F.bl.aO]
  simp only [e0,e1,e7,e8,aU,Nat.reduceAdd,Nat.reduceEqDiff,reduceIte,bg hi,aW x hi,gO hv,callV_func]
  refine an (hp _ _ ?_)
  simp only [aU,Nat.reduceAdd,Nat.reduceEqDiff,reduceIte]
  cases hq:p x.l[i] with
  |true=>
   simp only [aJ]
   rw [hr,F.bl.bt]
   refine hK (i:Int) ?_
   rw [decide_eq_true (by omega:(0:Int)≤(i:Int))]
   exact (List.any_eq_true.2 ⟨_,List.mem_of_getElem? hv,hq⟩).symm
  |false=>
   simp only [aG,aI hi hx,bindO_some]
   exact hn _ _ ⟨rfl,e0,e1,e7,rfl,by rw [List.take_add_one,hv,List.any_append,ht];simp [hq]⟩
 ·rintro e h' ⟨rfl,e0,e1,e7,e8,ht⟩ K' hx'
  rw [F.bl.aO]
  simp only [e0,e1,e7,e8,aU,Nat.reduceAdd,Nat.reduceEqDiff,reduceIte,aR]
  rw [hx',F.bl.aD]
  rw [List.take_of_length_le (Nat.le_refl _)] at ht
  exact hK (-1) (by rw [ht];rfl)
theorem vQ{x:Sl bG}(hx:x.l.length≤cy){g:FuncId}{a b:List AV}{h:ag}{p:bG→Bool}(hp:∀ (v:bG) (K:Out→ag→Bool),K (.ret (.bool (p v))) h=true→Sem Tryz.prog g (a++([.str v]++b)) h K)
  {K:Out→ag→Bool} (hK:K (.ret (.bool (x.l.any p))) h=true):Sem Tryz.prog 168 [aq encS 1 x,.func g a b] h K:=by
 refine F.iI ?_
 refine an (By hx hp fun n hn=>?_)
 simp only [aU,Nat.reduceAdd,Nat.reduceEqDiff,reduceIte]
 rw [hn];exact hK
theorem Dg{s:bG}{h:ag}{K:Out→ag→Bool}(hK:K (.ret (.bool (!dX s))) h=true):Sem Tryz.prog 169 [.str s] h K:=by
 refine F.vt ?_
 refine an (dy ?_)
 simp only [aU,Nat.reduceAdd,Nat.reduceEqDiff,reduceIte]
 exact hK
theorem Mn{α:Type}(p:α→Bool)(l:List α):(!(l.any fun x=>!p x))=l.all p:=by
 induction l with
 |nil=>rfl
 |cons a l ih=>rw [List.any_cons,List.all_cons,← ih];cases p a<;>simp
theorem Mo{α:Type}(p:α→Bool):∀ (l:List α) (h:l.length=2),l.all p=(p (l[0]'(by omega))&&p (l[1]'(by omega)))
 |[a,b],_=>by simp
def kq(nm:bG)(xs:List bG):Bool:=dX nm&&(decide (xs.length≤12)&&xs.all dX)
theorem Aj{nm:bG}{xs:Sl bG}(hx:xs.l.length≤cy){h:ag}{K:Out→ag→Bool}(hK:K (.ret (.bool (kq nm xs.l))) h=true):Sem Tryz.prog 130 [.agg [.str nm,aq encS 1 xs]] h K:=by
 refine Sem.data (r:=.bool (kq nm xs.l)) ?_ (by simp [AV.pureL,AV.pure,b8 gj]) hK
 clear hK
 refine F.zI ?_
 have g0:(ag.alloc ag.empty (.cells (gK nm xs))).get 0=some (.cells (gK nm xs)):=aB _ _
 have hb:cK (.agg [.str nm,aq encS 1 xs])=some (gK nm xs):=cU (vO nm xs)
 simp only [hb,bindO_some,bT]
 generalize (ag.alloc ag.empty (.cells (gK nm xs)))=H at g0 ⊢
 have fin:∀ b:Bool,b=kq nm xs.l→mR (.bool (kq nm xs.l)) (.ret (.bool b)) H=true:=fun b hb=>by rw [hb];exact fm rfl
 simp only [aU,Nat.reduceAdd,Nat.reduceEqDiff,reduceIte,ak g0,gK]
 refine an (dy ?_)
 simp only [aU,Nat.reduceAdd,Nat.reduceEqDiff,reduceIte]
 cases hn:dX nm with
 |false=>simp only [aG];exact fin _ (by simp [kq,hn])
 |true=>
  simp only [aJ,aU,Nat.reduceAdd,Nat.reduceEqDiff,reduceIte,ak g0,gK]
  by_cases h12:xs.l.length≤12
  ·simp only [decide_eq_true (by omega:(xs.l.length:Int)≤12),aJ,aU,Nat.reduceAdd,Nat.reduceEqDiff,reduceIte,ak g0,gK]
   refine an (vQ hx (p:=fun s=>!dX s) (fun v K hK=>Dg hK) ?_)
   simp only [aU,Nat.reduceAdd,Nat.reduceEqDiff,reduceIte]
   exact fin _ (by rw [Mn];simp [kq,hn,h12])
  ·simp only [decide_eq_false (by omega:¬ (xs.l.length:Int)≤12),aG]
   exact fin _ (by simp [kq,h12])
def fQ(c:eX):Bool:=if c.kind=0 then kq c.name c.args.l else if c.kind=1∨c.kind=2 then decide (c.name = [])&&(decide (c.args.l.length=2)&&c.args.l.all dX) else false
theorem eB{c:eX}(hc:c.ok){h:ag}{K:Out→ag→Bool}(hK:K (.ret (.bool (fQ c))) h=true):Sem Tryz.prog 132 [.agg [.int .i64 c.kind,.bool c.neg,.str c.name,aq encS 1 c.args]] h K:=by
 refine Sem.data (r:=.bool (fQ c)) ?_ (by simp [AV.pureL,AV.pure,b8 gj]) hK
 clear hK
 refine F.rO ?_
 have g0:(ag.alloc ag.empty (.cells (bY c))).get 0=some (.cells (bY c)):=aB _ _
 have hb:cK (.agg [.int .i64 c.kind,.bool c.neg,.str c.name,aq encS 1 c.args])=some (bY c):=cU (gN c)
 simp only [hb,bindO_some,bT]
 generalize (ag.alloc ag.empty (.cells (bY c)))=H at g0 ⊢
 have fin:∀ b:Bool,b=fQ c→mR (.bool (fQ c)) (.ret (.bool b)) H=true:=fun b hb=>by rw [hb];exact fm rfl
 generalize mR (.bool (fQ c))=R at fin ⊢
 simp only [aU,Nat.reduceAdd,Nat.reduceEqDiff,reduceIte,ak g0,bY,cQ,G6]
 by_cases k0:c.kind=0
 ·simp only [decide_eq_true k0,aJ]
  refine an (Aj hc.2.1 ?_)
  simp only [aU,Nat.reduceAdd,Nat.reduceEqDiff,reduceIte]
  exact fin _ (by simp [fQ,k0])
 simp only [decide_eq_false k0,aG]
 have J:∀ (e:Env) (b:Bool),e 1 = .ptr 0 0→e 10 = .bool b→(b=true↔(c.kind=1∨c.kind=2))→F.eB.J0 R ⟨e,40,[],H⟩=true:=by
  intro e b e1 e10 hb
  rw [F.eB.zJ]
  simp only [e1,e10,aU,Nat.reduceAdd,Nat.reduceEqDiff,reduceIte]
  cases b with
  |false=>
   simp only [aG]
   have:¬ (c.kind=1∨c.kind=2):=fun h=>by have:=hb.2 h;cases this
   exact fin _ (by simp [fQ,k0,this])
  |true=>
   have hk:=hb.1 rfl
   have hc1:fQ c=(decide (c.name = [])&&(decide (c.args.l.length=2)&&c.args.l.all dX)):=by simp only [fQ,if_neg k0,if_pos hk]
   rw [hc1] at fin
   simp only [aJ,aU,Nat.reduceAdd,Nat.reduceEqDiff,reduceIte,ak g0,bY,m6]
   by_cases hn:c.name = []
   ·simp only [decide_eq_true hn,aJ,aU,Nat.reduceAdd,Nat.reduceEqDiff,reduceIte,ak g0,bY,cQ]
    by_cases h2:c.args.l.length=2
    ·simp only [decide_eq_true (by omega:(c.args.l.length:Int)=2),aJ,aU,Nat.reduceAdd,Nat.reduceEqDiff,reduceIte,ak g0,bY]
     have v0:c.args.l[0]?=some c.args.l[0]:=List.getElem?_eq_getElem (by omega)
     have v1:c.args.l[1]?=some c.args.l[1]:=List.getElem?_eq_getElem (by omega)
     have hall:c.args.l.all dX=(dX c.args.l[0]&&dX c.args.l[1]):=Mo dX _ h2
     have i0:=aW (enc:=encS) (sz:=1) (k:=.i64) c.args (i:=0) (by omega)
     have i1:=aW (enc:=encS) (sz:=1) (k:=.i64) c.args (i:=1) (by omega)
     have l0:=fun h=>gO (x:=c.args) v0 (h:=h)
     have l1:=fun h=>gO (x:=c.args) v1 (h:=h)
     simp only [show ((0:Nat):Int)=0 from rfl,show ((1:Nat):Int)=1 from rfl] at i0 i1
     simp only [i0,i1,l0,l1,aU,Nat.reduceAdd,Nat.reduceEqDiff,reduceIte]
     refine an (dy ?_)
     simp only [aU,Nat.reduceAdd,Nat.reduceEqDiff,reduceIte]
     rw [hall] at fin
     cases n0:dX c.args.l[0] with
     |false=>simp only [aG];exact fin _ (by simp [n0])
     |true=>
      simp only [aJ,aU,Nat.reduceAdd,Nat.reduceEqDiff,reduceIte,ak g0,bY,i0,i1,l0,l1]
      refine an (dy ?_)
      simp only [aU,Nat.reduceAdd,Nat.reduceEqDiff,reduceIte]
      exact fin _ (by simp [n0,hn,h2])
    ·simp only [decide_eq_false (by omega:¬ (c.args.l.length:Int)=2),aG]
     exact fin _ (by simp [h2])
   ·simp only [decide_eq_false hn,aG]
    exact fin _ (by simp [hn])
 by_cases k1:c.kind=1
 ·simp only [decide_eq_true k1,aJ]
  exact J _ true rfl rfl (by simp [k1])
 ·simp only [decide_eq_false k1,aG]
  exact J _ (decide (c.kind=2)) rfl rfl (by simp [k1])
end
end Go.AM
namespace Go.AM
open Go Go.Proofs
noncomputable section
theorem HV{k:Nat}{h:ag}{a:AV}{l:List bG}{s:bG}(o:Own encS 1 k h a l)(hl:l.length≤cy){K:Out→ag→Bool}
  (hK:∀ n:Int,decide (0≤n)=(l.any fun x=>s==x)→K (.ret (.int .i64 n)) h=true):Sem Tryz.prog 157 [a,.str s] h K:=by
 refine F.gu ?_
 simp only [o.len,aU,Nat.reduceAdd,Nat.reduceEqDiff,reduceIte]
 refine aC 0 l.length (Nat.zero_le _) (fun i e h'=>h'=h∧e 0=a∧e 1 = .str s∧e 7 = .int .i64 (l.length:Int)∧e 8 = .int .i64 (i:Int)∧((l.take i).any fun x=>s==x)=false) ⟨rfl,rfl,rfl,rfl,rfl,rfl⟩ ?_ ?_
 ·rintro i e h' _ hi ⟨rfl,e0,e1,e7,e8,ht⟩ K' hn hx' hr hp'
  have hv:l[i]?=some l[i]:=List.getElem?_eq_getElem hi
  generalize l[i]=x at hv
  obtain ⟨b,_,g1,g2⟩:=qv o hv
  rw [F.bq.aO]
  simp only [e0,e1,e7,e8,aU,Nat.reduceAdd,Nat.reduceEqDiff,reduceIte,bg hi,g1,g2]
  cases hq:s==x with
  |true=>
   simp only [aJ]
   rw [hr,F.bq.bt]
   refine hK (i:Int) ?_
   rw [decide_eq_true (by omega:(0:Int)≤(i:Int))]
   exact (List.any_eq_true.2 ⟨_,List.mem_of_getElem? hv,hq⟩).symm
  |false=>
   simp only [aG,aI hi hl,bindO_some]
   exact hn _ _ ⟨rfl,e0,e1,e7,rfl,uB hv ht hq⟩
 ·rintro e h' ⟨rfl,e0,e1,e7,e8,ht⟩ K' hx'
  rw [F.bq.aO]
  simp only [e0,e1,e7,e8,aU,Nat.reduceAdd,Nat.reduceEqDiff,reduceIte,aR]
  rw [hx',F.bq.aD]
  rw [List.take_of_length_le (Nat.le_refl _)] at ht
  exact hK (-1) (by rw [ht];rfl)
theorem Dh{k:Nat}{h:ag}{a:AV}{l:List bG}{s:bG}(o:Own encS 1 k h a l)(hl:l.length≤cy){K:Out→ag→Bool}
  (hK:K (.ret (.bool (l.any fun x=>s==x))) h=true):Sem Tryz.prog 155 [a,.str s] h K:=by
 refine F.ju ?_
 refine an (HV o hl fun n hn=>?_)
 simp only [aU,Nat.reduceAdd,Nat.reduceEqDiff,reduceIte]
 rw [hn];exact hK
def vR(o:List bG)(s:bG):List bG:=if (o.any fun x=>s==x)=true then o else o++[s]
def ey(o l:List bG):List bG:=l.foldl vR o
theorem wY{o l:List bG}{i:Nat}{s:bG}(hs:l[i]?=some s):ey o (l.take (i+1))=vR (ey o (l.take i)) s:=by
 unfold ey;rw [List.take_add_one,hs];simp
theorem JA(o:List bG)(s:bG):(vR o s).length≤o.length+1:=by
 unfold vR;split<;>simp
theorem mF:∀ (l o:List bG),(ey o l).length≤o.length+l.length
 |[],o=>Nat.le_refl _
 |s :: l,o=>by
  have h1:=mF l (vR o s)
  have h2:=JA o s
  show (ey (vR o s) l).length≤_
  rw [List.length_cons];omega
theorem qz{α:Type}{enc:α→List AV}{sz k:Nat}{h:ag}{a:AV}{l:List α}(o:Own enc sz k h a l):a.dM = [a]∧bN [a]=true:=by
 cases o<;>exact ⟨rfl,rfl⟩
theorem HW{α:Type}{enc:α→List AV}{sz k:Nat}{h:ag}{a b:AV}{l:List α}{V:Nat}(o:Own enc sz k h a l)(hV:h.get V=some (.cells [b])):bp 1 (.ptr V 0) a h=some (h.set V (.cells [a])):=by
 obtain ⟨h1,h2⟩:=qz o
 rw [cT (n:=1) hV (by rw [h1];rfl) (by rw [h1];exact h2) (by simp),h1];rfl
theorem M3(s:bG):fc [.str []] [(0,1)] [.str s]=some (encS s):=rfl
theorem wZ{V k:Nat}{h:ag}{a:AV}{l:List bG}{xs:Sl bG}(hV:h.get V=some (.cells [a]))(hVk:V<k)(o:Own encS 1 k h a l)(hk:k≤h.next)(hlen:l.length+xs.l.length≤100000000){K:Out→ag→Bool}
  (hK:∀ a' h',h'.get V=some (.cells [a'])→Own encS 1 k h' a' (ey l xs.l)→(∀ c,c<k→c≠V→h'.get c=h.get c)→h.next≤h'.next→K (.ret (.tuple [])) h'=true):Sem Tryz.prog 154 [aq encS 1 xs,.ptr V 0] h K:=by
 refine F.pF ?_
 simp only [aU,Nat.reduceAdd,Nat.reduceEqDiff,reduceIte]
 refine aC 0 xs.l.length (Nat.zero_le _) (fun i e h'=>∃ a',h'.get V=some (.cells [a'])∧Own encS 1 k h' a' (ey l (xs.l.take i))∧(∀ c,c<k→c≠V→h'.get c=h.get c)∧h.next≤h'.next ∧
  e 1 = .ptr V 0∧e 5=aq encS 1 xs∧e 6 = .int .i64 (xs.l.length:Int)∧e 7 = .int .i64 (i:Int)) ⟨a,hV,by simpa [ey] using o,fun _ _ _=>rfl,Nat.le_refl _,rfl,rfl,rfl,rfl⟩ ?_ ?_
 ·rintro i e h' _ hi ⟨a',gV,o',fr,hn',e1,e5,e6,e7⟩ K' hn hx hr hp
  have hv:xs.l[i]?=some xs.l[i]:=List.getElem?_eq_getElem hi
  generalize xs.l[i]=s at hv
  have hlb:(ey l (xs.l.take i)).length≤100000000:=by
   have h1:=mF (xs.l.take i) l
   have h2:=List.length_take_le i xs.l
   omega
  rw [F.cV.aO]
  simp only [e1,e5,e6,e7,aU,Nat.reduceAdd,Nat.reduceEqDiff,reduceIte,bg hi,aW xs hi,gO hv,ak gV]
  refine an (Dh o' (by unfold cy;omega) ?_)
  simp only [aU,Nat.reduceAdd,Nat.reduceEqDiff,reduceIte]
  have hstep:=wY (o:=l) hv
  unfold vR at hstep
  cases hq:(ey l (xs.l.take i)).any fun x=>s==x with
  |true=>
   rw [hq,if_pos rfl] at hstep
   simp only [Bool.not_true,aG,aI hi (show xs.l.length≤cy by unfold cy;omega),bindO_some]
   exact hn _ _ ⟨a',gV,by rw [hstep];exact o',fr,hn',e1,e5,e6,rfl⟩
  |false=>
   rw [hq,if_neg (by simp)] at hstep
   obtain ⟨a2,h2,p1,p2,p3,p4,p5,p6⟩:=o'.push gr mD (by omega) (bytes:=16) (by unfold cX;omega) s
   have gV2:h2.get V=some (.cells [a']):=by
    rw [p3 V (by omega) (fun hb=>by have:=o'.ge hb;omega)];exact gV
   have hst:=HW p2 gV2
   simp only [Bool.not_false,aJ,e1,ak gV,aU,Nat.reduceAdd,Nat.reduceEqDiff,reduceIte,M3,p1,hst,aI hi (show xs.l.length≤cy by unfold cy;omega)]
   refine hn _ _ ⟨a2,by rw [ag.aN,if_pos rfl],by rw [hstep];exact p2.nr hVk _,fun c hc hcV=>?_,by rw [ag.next_set];omega,e1,e5,e6,rfl⟩
   rw [ag.aN,if_neg hcV,p3 c (by omega) (fun hb=>by have:=o'.ge hb;omega),fr c hc hcV]
 ·rintro e h' ⟨a',gV,o',fr,hn',e1,e5,e6,e7⟩ K' hx
  rw [F.cV.aO]
  simp only [e6,e7,aU,Nat.reduceAdd,Nat.reduceEqDiff,reduceIte,aR]
  rw [hx,F.cV.aD]
  rw [List.take_of_length_le (Nat.le_refl _)] at o'
  exact hK a' h' gV o' fr hn'
def iW(o:List bG)(cs:List eX):List bG:=cs.foldl (fun o c=>ey o c.args.l) o
def varsOf(r:aE):List bG:=iW (ey [] r.args.l) r.body.l
def aE.lB(r:aE):Prop:=r.args.l.length≤1500∧r.body.l.length≤1500∧∀ c ∈ r.body.l,c.args.l.length≤1500
theorem Bz{o:List bG}{cs:List eX}{i:Nat}{c:eX}(hc:cs[i]?=some c):iW o (cs.take (i+1))=ey (iW o (cs.take i)) c.args.l:=by
 unfold iW;rw [List.take_add_one,hc];simp
theorem uC:∀ (cs:List eX) (o:List bG),(∀ c ∈ cs,c.args.l.length≤1500)→(iW o cs).length≤o.length+cs.length*1500
 |[],o,_=>by simp [iW]
 |c :: cs,o,h=>by
  have h1:=uC cs (ey o c.args.l) fun d hd=>h d (List.mem_cons_of_mem _ hd)
  have h2:=mF c.args.l o
  have h3:=h c List.mem_cons_self
  show (iW (ey o c.args.l) cs).length≤_
  rw [List.length_cons];omega
theorem Ew{r:aE}(hf:r.lB)(i:Nat):(iW (ey [] r.args.l) (r.body.l.take i)).length≤3000000:=by
 have h1:=uC (r.body.l.take i) (ey [] r.args.l) fun c hc=>hf.2.2 c (List.mem_of_mem_take hc)
 have h2:=mF r.args.l []
 have h3:=List.length_take_le i r.body.l
 have h4:=List.length_take_le' i r.body.l
 have:=hf.1;have:=hf.2.1
 simp only [List.length_nil] at h2
 omega
theorem cG{r:aE}(hf:r.lB){h:ag}{K:Out→ag→Bool}(hK:∀ x:Sl bG,x.l=varsOf r→K (.ret (aq encS 1 x)) h=true) :
  Sem Tryz.prog 108 [.agg [.str r.name,aq encS 1 r.args,aq bY 4 r.body]] h K:=by
 have main:Sem Tryz.prog 108 [.agg [.str r.name,aq encS 1 r.args,aq bY 4 r.body]] ag.empty (fun o h'=>yes (∃ v,∃ x:Sl bG,o = .ret v∧x.l=varsOf r∧Fz true h' v (aq encS 1 x))):=by
  refine F.rN ?_
  have hb:cK (.agg [.str r.name,aq encS 1 r.args,aq bY 4 r.body])=some (aM r):=cU (iz r)
  simp only [hb,bindO_some,bT,ag.next_alloc]
  have g0:(ag.alloc (ag.alloc ag.empty (.cells (aM r))) (.cells [.nils])).get 0=some (.cells (aM r)):=by simp [ag.bf,bT]
  have g1:(ag.alloc (ag.alloc ag.empty (.cells (aM r))) (.cells [.nils])).get 1=some (.cells [.nils]):=by simp [ag.bf,bT]
  have gn:(ag.alloc (ag.alloc ag.empty (.cells (aM r))) (.cells [.nils])).next=2:=rfl
  generalize (ag.alloc (ag.alloc ag.empty (.cells (aM r))) (.cells [.nils]))=H at g0 g1 gn ⊢
  simp only [aU,Nat.reduceAdd,Nat.reduceEqDiff,reduceIte,ak g0,aM]
  refine an (wZ g1 (by omega) (Own.nil (k:=2)) (by omega) (by have:=hf.1;simp only [List.length_nil];omega) fun a h1 q1 q2 q3 q4=>?_)
  have g0':h1.get 0=some (.cells (aM r)):=by rw [q3 0 (by omega) (by omega)];exact g0
  simp only [aU,Nat.reduceAdd,Nat.reduceEqDiff,reduceIte,ak g0',aM]
  refine aC 0 r.body.l.length (Nat.zero_le _) (fun i e h'=>∃ a',h'.get 1=some (.cells [a'])∧Own encS 1 2 h' a' (iW (ey [] r.args.l) (r.body.l.take i))∧2≤h'.next ∧
   e 3 = .ptr 1 0∧e 4 = .func 154 [] [.ptr 1 0]∧e 14=aq bY 4 r.body∧e 15 = .int .i64 (r.body.l.length:Int)∧e 16 = .int .i64 (i:Int)) ⟨a,q1,by simpa [iW] using q2,by omega,rfl,rfl,rfl,rfl,rfl⟩ ?_ ?_
  ·rintro i e h' _ hi ⟨a',gV,o',hn',e3,e4,e14,e15,e16⟩ K' hn hx hr hp
   have hv:r.body.l[i]?=some r.body.l[i]:=List.getElem?_eq_getElem hi
   generalize r.body.l[i]=c at hv
   have hc15:=hf.2.2 c (List.mem_of_getElem? hv)
   obtain ⟨H2,hs,k1,ko,kn⟩:=cP (h:=h') (zs:=[.int .i64 0,.bool false,.str [],.nils]) (cs:=bY c) (n:=4) rfl rfl (gN c)
   have x2:bJ h' H2:=⟨by omega,fun b hb=>ko b (by omega)⟩
   have gV2:H2.get 1=some (.cells [a']):=by rw [x2.get 1 (by omega)];exact gV
   rw [F.cG.aO]
   simp only [e3,e4,e14,e15,e16,aU,Nat.reduceAdd,Nat.reduceEqDiff,reduceIte,bg hi,aW r.body hi,dN gL hv,hs]
   simp only [aU,Nat.reduceAdd,Nat.reduceEqDiff,reduceIte,ak k1,bY,callV_func,List.nil_append,List.cons_append]
   refine an (wZ (xs:=c.args) gV2 (by omega) (o'.ext x2) (by omega) (by have:=Ew hf i;omega) fun a3 h3 s1 s2 s3 s4=>?_)
   simp only [aU,Nat.reduceAdd,Nat.reduceEqDiff,reduceIte,aI hi (show r.body.l.length≤cy by have:=hf.2.1;unfold cy;omega)]
   refine hn _ _ ⟨a3,s1,by rw [Bz hv];exact s2,by omega,e3,e4,e14,e15,rfl⟩
  ·rintro e h' ⟨a',gV,o',hn',e3,e4,e14,e15,e16⟩ K' hx
   rw [F.cG.aO]
   simp only [e15,e16,aU,Nat.reduceAdd,Nat.reduceEqDiff,reduceIte,aR]
   rw [hx,F.cG.aD]
   simp only [e3,aU,Nat.reduceAdd,Nat.reduceEqDiff,reduceIte,ak gV]
   rw [List.take_of_length_le (Nat.le_refl _)] at o'
   obtain ⟨x,hx1,hx2⟩:=o'.FX (fun v y hy=>by
    simp only [encS,List.mem_cons,List.not_mem_nil,or_false] at hy
    subst hy;exact .scalar _ rfl)
   exact cD.2 ⟨a',x,rfl,hx1,hx2⟩
 refine main.frozen (by have:=eM r;simpa [aM,AV.pureL,AV.pure] using this) fun o h' ho=>?_
 obtain ⟨v,x,rfl,hx,hfz⟩:=cD.1 ho
 exact ⟨v,_,rfl,hfz,hK x hx⟩
end
end Go.AM
namespace Go.AM
open Go Go.Proofs
noncomputable section
theorem bX(b o:Nat):bV (.ptr b o)=some (.ptr b o):=rfl
theorem Ey{d:TypeDesc}{k:AV}:∀ {es:List Entry} {i j:Nat} {v:AV},iC d k es i=some (some (j,v))→∃ n e,j=i+n∧es[n]?=some e
 |[],i,j,v,h=>by simp [iC] at h
 |e :: es,i,j,v,h=>by
  simp only [iC] at h
  split at h
  ·cases h;exact ⟨0,e,rfl,rfl⟩
  ·obtain ⟨n,f,h1,h2⟩:=Ey h
   exact ⟨n+1,f,by omega,by simpa using h2⟩
  ·cases h
theorem w8:∀ {es:List Entry} {i j:Nat} {e:Entry},(es.map (·.2.2)).Nodup→es[i]?=some e→mh (e.2.2:Int) es j=some (j+i)
 |[],i,j,e,_,h=>by simp at h
 |f :: es,0,j,e,_,h=>by
  simp only [List.getElem?_cons_zero,Option.some.injEq] at h
  subst h;simp [mh]
 |f :: es,i+1,j,e,hn,h=>by
  rw [List.map_cons,List.nodup_cons] at hn
  rw [List.getElem?_cons_succ] at h
  have hne:¬ ((f.2.2:Int)=(e.2.2:Int)):=fun heq=>hn.1 (by
   have:f.2.2=e.2.2:=by omega
   rw [this];exact List.mem_map_of_mem (List.mem_of_getElem? h))
  rw [mh,if_neg hne,w8 hn.2 h]
  congr 1;omega
theorem HX{b:Nat}{h:ag}{es:List Entry}{ck:Nat}{m:dJ}(hb:h.get b=some (.map es ck))(hm:jb es m)(hB:iV es ck){k:bG}{q:Int}(hk:m.find k=some q)(v:Int) :
  ∃ es' born,jJ .string (.int .i64 0) (.map b) (.str k) h=some (.tuple [.int .i64 q,.int .i64 born],h)∧gX (.map b) (.int .i64 born) (.int .i64 v) h=some (h.set b (.map es' ck))∧jb es' (m.oz k v)∧iV es' ck:=by
 obtain ⟨r,hr,hm'⟩:=jb.iC (k:=k) 0 hm
 cases r with
 |none=>simp only at hm';rw [hk] at hm';cases hm'
 |some jv=>
  obtain ⟨n,q',hj,b',c,_,e⟩:=hm'
  obtain ⟨j,w⟩:=jv
  simp only [Nat.zero_add] at hj c
  subst hj;subst c
  rw [hk] at b';cases b'
  obtain ⟨n,f,h1,h2⟩:=Ey hr
  rw [Nat.zero_add] at h1;subst h1
  refine ⟨eP es j (.int .i64 v),(f.2.2:Int),?_,?_,e v,hB.set _ _⟩
  ·simp only [jJ,hb,nB,nA,if_true,hr,CB,h2]
  ·have:=w8 (j:=0) hB.nodup h2
   rw [Nat.zero_add] at this
   simp only [gX,hb,this]
structure eY (hs:List bG) (h:ag) (M:Nat) (ks:List bG) (lv:Lev.Lv):Prop where
 ex:∃ es ck m,h.get M=some (.map es ck)∧jb es m∧iV es ck∧m.map (·.1)=ks∧∀ x,m.find x=if x ∈ hs then some (lv x:Int) else none
theorem eY.keep{hs:List bG}{h h':ag}{M:Nat}{ks:List bG}{lv:Lev.Lv}(l:eY hs h M ks lv)(he:h'.get M=h.get M):eY hs h' M ks lv:=by
 obtain ⟨es,ck,m,h1,h2⟩:=l.ex
 exact ⟨es,ck,m,by rw [he];exact h1,h2⟩
def eT(r:aE)(c:eX):Lev.Edge:=⟨c.name,if c.neg then 1 else 0,r.name⟩
def jZ(hs:List bG)(r:aE)(c:eX):List Lev.Edge:=if c.kind=0∧c.name ∈ hs then [eT r c] else []
def lH(hs:List bG)(r:aE)(cs:List eX):List Lev.Edge:=cs.flatMap (jZ hs r)
def ji(hs:List bG)(rs:List aE):List Lev.Edge:=rs.flatMap fun r=>lH hs r r.body.l
theorem xb{hs:List bG}{r:aE}{cs:List eX}{j:Nat}{c:eX}(hc:cs[j]?=some c):lH hs r (cs.take (j+1))=lH hs r (cs.take j)++jZ hs r c:=by
 unfold lH;rw [List.take_add_one,hc];simp
theorem Ak{hs:List bG}{rs:List aE}{i:Nat}{r:aE}(hr:rs[i]?=some r):ji hs (rs.take (i+1))=ji hs (rs.take i)++lH hs r r.body.l:=by
 unfold ji;rw [List.take_add_one,hr];simp
end
end Go.AM
namespace Go.AM
open Go Go.Proofs
noncomputable section
theorem eY.look{hs:List bG}{h:ag}{M:Nat}{ks:List bG}{lv:Lev.Lv}(l:eY hs h M ks lv)(k:bG) :
  dz .string (.int .i64 0) true (.map M) (.str k) h=some (.tuple [.int .i64 (if k ∈ hs then (lv k:Int) else 0),.bool (decide (k ∈ hs))]):=by
 obtain ⟨es,ck,m,h1,h2,h3,h4,h5⟩:=l.ex
 rw [oA h1 h2,h5]
 by_cases hk:k ∈ hs<;>simp [hk]
theorem eY.M4{hs:List bG}{h:ag}{M:Nat}{ks:List bG}{lv:Lev.Lv}(l:eY hs h M ks lv)(k:bG) :
  dz .string (.int .i64 0) false (.map M) (.str k) h=some (.int .i64 (if k ∈ hs then (lv k:Int) else 0)):=by
 obtain ⟨es,ck,m,h1,h2,h3,h4,h5⟩:=l.ex
 rw [qy h1 h2,h5]
 by_cases hk:k ∈ hs<;>simp [hk]
theorem eY.Rg{hs:List bG}{h:ag}{M:Nat}{ks:List bG}{lv:Lev.Lv}{e:Lev.Edge}(l:eY hs h M ks lv)(hh:e.h ∈ hs)(hlt:lv e.h<lv e.b+e.w) :
  ∃ born h',jJ .string (.int .i64 0) (.map M) (.str e.h) h=some (.tuple [.int .i64 (lv e.h:Int),.int .i64 born],h)∧gX (.map M) (.int .i64 born) (.int .i64 ((lv e.b+e.w:Nat):Int)) h=some h' ∧
   eY hs h' M ks (Lev.fV lv e)∧(∀ b,b≠M→h'.get b=h.get b)∧h'.next=h.next:=by
 obtain ⟨es,ck,m,h1,h2,h3,h4,h5⟩:=l.ex
 have hf:m.find e.h=some (lv e.h:Int):=by rw [h5,if_pos hh]
 obtain ⟨es',born,q1,q2,q3,q4⟩:=HX h1 h2 h3 hf ((lv e.b+e.w:Nat):Int)
 refine ⟨born,_,q1,q2,⟨es',ck,_,by rw [ag.aN,if_pos rfl],q3,q4,?_,fun x=>?_⟩,fun b hb=>by rw [ag.aN,if_neg hb],ag.next_set _ _ _⟩
 ·rw [Ev,if_pos (List.mem_map.2 ⟨_,nO hf,rfl⟩)];exact h4
 ·rw [rE]
  unfold Lev.fV
  rw [if_pos hlt]
  by_cases hx:x=e.h
  ·subst hx;rw [if_pos rfl,if_pos hh,if_pos rfl]
  ·rw [if_neg hx,if_neg hx,h5]
theorem F5{P M:Nat}{A:AV}{rules:Sl aE}{hs ks:List bG}{lv:Lev.Lv}{N:Nat}{h:ag}(hP:h.get P=some (.cells [aq aM 3 rules,A,.map M]))(hl:eY hs h M ks lv)(hPn:P<h.next)(hMn:M<h.next)
  (hr:rules.l.length≤60) (hb:∀ r ∈ rules.l,r.body.l.length≤20∧r.name ∈ hs) (hN:∀ x,lv x≤N) (hNb:N≤1000000) {K:Out→ag→Bool}
  (hK:∀ h',eY hs h' M ks (Lev.round (ji hs rules.l) lv)→(∀ b,b<h.next→b≠M→h'.get b=h.get b)→h.next≤h'.next→K (.ret (.bool (!decide (Lev.cZ (ji hs rules.l) lv)))) h'=true):Sem Tryz.prog 133 [.ptr P 0] h K:=by
 have hPM:P≠M:=fun e=>by
  obtain ⟨es,ck,m,h1,_⟩:=hl.ex
  rw [e,h1] at hP;cases hP
 refine F.oE ?_
 simp only [aU,Nat.reduceAdd,Nat.reduceEqDiff,reduceIte,bX,ak hP]
 refine aC 0 rules.l.length (Nat.zero_le _) (fun i e h'=>∃ cur ch,Lev.RS lv cur (ji hs (rules.l.take i)) ch∧eY hs h' M ks cur∧(∀ x,cur x≤N+i*20)∧(∀ b,b<h.next→b≠M→h'.get b=h.get b)∧h.next≤h'.next ∧
  e 0 = .ptr P 0∧e 3 = .bool ch∧e 13=aq aM 3 rules∧e 14 = .int .i64 (rules.l.length:Int)∧e 15 = .int .i64 (i:Int)) ⟨lv,false,Lev.RS.nil lv,hl,by simpa using hN,fun _ _ _=>rfl,Nat.le_refl _,rfl,rfl,rfl,rfl,rfl⟩ ?_ ?_
 ·rintro i e h' _ hi ⟨cur,ch,rs,la,bd,fr,hn',e0,e3,e13,e14,e15⟩ K' hn hx hr' hp
  have hv:rules.l[i]?=some rules.l[i]:=List.getElem?_eq_getElem hi
  generalize rules.l[i]=r at hv
  obtain ⟨hb20,hin⟩:=hb r (List.mem_of_getElem? hv)
  obtain ⟨H,hs1,g1,go,gn⟩:=cP (h:=h') (zs:=[.str [],.nils,.nils]) (cs:=aM r) (n:=3) rfl rfl (iz r)
  rw [F.aZ.aO]
  simp only [e0,e3,e13,e14,e15,aU,Nat.reduceAdd,Nat.reduceEqDiff,reduceIte,bg hi,aW rules hi,dN fK hv,hs1]
  simp only [aU,Nat.reduceAdd,Nat.reduceEqDiff,reduceIte,ak g1,aM]
  refine aC 0 r.body.l.length (Nat.zero_le _) (fun j e h2=>∃ cur ch,Lev.RS lv cur (ji hs (rules.l.take i)++lH hs r (r.body.l.take j)) ch∧eY hs h2 M ks cur∧(∀ x,cur x≤N+i*20+j)∧(∀ b,b<h.next→b≠M→h2.get b=h.get b)∧h2.get h'.next=some (.cells (aM r))∧h'.next<h2.next ∧
   e 0 = .ptr P 0∧e 3 = .bool ch∧e 5 = .ptr h'.next 0∧e 13=aq aM 3 rules∧e 14 = .int .i64 (rules.l.length:Int)∧e 15 = .int .i64 (i:Int)∧e 20=aq bY 4 r.body∧e 21 = .int .i64 (r.body.l.length:Int)∧e 22 = .int .i64 (j:Int))
   ⟨cur,ch,by simpa [lH] using rs,la.keep (go M (by omega)),by simpa using bd,fun b hb1 hb2=>by rw [go b (by omega)];exact fr b hb1 hb2,g1,by omega,e0,e3,rfl,e13,e14,e15,rfl,rfl,rfl⟩ ?_ ?_
  ·rintro j e h2 _ hj ⟨cur,ch,rs,la,bd,fr,gR,hn2,e0,e3,e5,e13,e14,e15,e20,e21,e22⟩ K2 hn2' hx2 hr2 hp2
   have hc:r.body.l[j]?=some r.body.l[j]:=List.getElem?_eq_getElem hj
   generalize r.body.l[j]=c at hc
   obtain ⟨H2,hs2,k1,ko,kn⟩:=cP (h:=h2) (zs:=[.int .i64 0,.bool false,.str [],.nils]) (cs:=bY c) (n:=4) rfl rfl (gN c)
   have la2:eY hs H2 M ks cur:=la.keep (ko M (by omega))
   have gP2:H2.get P=some (.cells [aq aM 3 rules,A,.map M]):=by rw [ko P (by omega),fr P hPn hPM];exact hP
   have gR2:H2.get h'.next=some (.cells (aM r)):=by rw [ko _ (by omega)];exact gR
   have fr2:∀ b,b<h.next→b≠M→H2.get b=h.get b:=fun b hb1 hb2=>by rw [ko b (by omega)];exact fr b hb1 hb2
   have hbig:r.body.l.length≤cy:=by unfold cy;omega
   have hst:=xb (hs:=hs) (r:=r) hc
   rw [F.aZ.dx]
   simp only [e0,e3,e5,e13,e14,e15,e20,e21,e22,aU,Nat.reduceAdd,Nat.reduceEqDiff,reduceIte,bg hj,aW r.body hj,dN gL hc,hs2]
   simp only [aU,Nat.reduceAdd,Nat.reduceEqDiff,reduceIte,ak k1,bX,ak gP2,bY,la2.look,cQ]
   by_cases k0:c.kind=0
   ·simp only [decide_eq_true k0,Bool.not_true,aG]
    by_cases hm:c.name ∈ hs
    ·have hed:jZ hs r c = [eT r c]:=by unfold jZ;rw [if_pos ⟨k0,hm⟩]
     rw [hed] at hst
     simp only [decide_eq_true hm,Bool.not_true,aG,if_pos hm,aU,Nat.reduceAdd,Nat.reduceEqDiff,reduceIte,ak k1,bY]
     have J:∀ e':Env,e' 0 = .ptr P 0→e' 3 = .bool ch→e' 5 = .ptr h'.next 0→e' 8 = .int .i64 ((cur c.name+(eT r c).w:Nat):Int)→e' 13=aq aM 3 rules→e' 14 = .int .i64 (rules.l.length:Int)→e' 15 = .int .i64 (i:Int)→e' 20=aq bY 4 r.body→e' 21 = .int .i64 (r.body.l.length:Int)→e' 22 = .int .i64 (j:Int) →
       F.aZ.J0 K2 ⟨e',71,[],H2⟩=true:=by
      intro e' e0 e3 e5 e8 e13 e14 e15 e20 e21 e22
      rw [F.aZ.zJ]
      simp only [e0,e5,e8,aU,Nat.reduceAdd,Nat.reduceEqDiff,reduceIte,bX,ak gP2,ak gR2,aM,la2.M4,if_pos hin]
      by_cases hlt:cur r.name<cur c.name+(eT r c).w
      ·obtain ⟨born,h3,q1,q2,q3,q4,q5⟩:=la2.Rg (e:=eT r c) hin hlt
       have q1':jJ .string (.int .i64 0) (.map M) (.str r.name) H2=some (.tuple [.int .i64 (cur r.name:Int),.int .i64 born],H2):=q1
       have q2':gX (.map M) (.int .i64 born) (.int .i64 ((cur c.name+(eT r c).w:Nat):Int)) H2=some h3:=q2
       simp only [bg hlt,aJ,e0,e5,e8,e22,aU,Nat.reduceAdd,Nat.reduceEqDiff,reduceIte,bX,ak gP2,ak gR2,aM,q1',q2',aI hj hbig]
       refine hn2' _ _ ⟨_,true,?_,q3,fun x=>?_,fun b hb1 hb2=>by rw [q4 b hb2];exact fr2 b hb1 hb2,?_,by omega,e0,rfl,e5,e13,e14,e15,e20,e21,rfl⟩
       ·rw [hst,← List.append_assoc];exact rs.up hlt
       ·have:=Lev.pQ (e:=eT r c) bd (by unfold eT;simp only;split<;>omega) x;omega
       ·rw [q4 _ (by omega)];exact gR2
      ·simp only [decide_eq_false (by omega:¬ ((cur r.name:Int)<((cur c.name+(eT r c).w:Nat):Int))),aG,e22,aI hj hbig,bindO_some]
       exact hn2' _ _ ⟨cur,ch,by rw [hst,← List.append_assoc];exact rs.same hlt,la2,fun x=>by have:=bd x;omega,fr2,gR2,by omega,e0,e3,e5,e13,e14,e15,e20,e21,rfl⟩
     cases hng:c.neg with
     |true=>
      have hw:(eT r c).w=1:=by unfold eT;simp [hng]
      have hadd:=aI (i:=cur c.name) (n:=2000000) (by have:=bd c.name;omega) (by unfold cy;omega)
      simp only [aJ,hadd,bindO_some]
      exact J _ e0 e3 e5 (by rw [hw];rfl) e13 e14 e15 e20 e21 e22
     |false=>
      have hw:(eT r c).w=0:=by unfold eT;simp [hng]
      simp only [aG]
      exact J _ e0 e3 e5 (by rw [hw];rfl) e13 e14 e15 e20 e21 e22
    ·have hed:jZ hs r c = []:=by unfold jZ;rw [if_neg (fun h=>hm h.2)]
     rw [hed,List.append_nil] at hst
     simp only [decide_eq_false hm,Bool.not_false,aJ,aI hj hbig,bindO_some]
     exact hn2' _ _ ⟨cur,ch,by rw [hst];exact rs,la2,fun x=>by have:=bd x;omega,fr2,gR2,by omega,e0,e3,e5,e13,e14,e15,e20,e21,rfl⟩
   ·have hed:jZ hs r c = []:=by unfold jZ;rw [if_neg (fun h=>k0 h.1)]
    rw [hed,List.append_nil] at hst
    simp only [decide_eq_false k0,Bool.not_false,aJ,aI hj hbig,bindO_some]
    exact hn2' _ _ ⟨cur,ch,by rw [hst];exact rs,la2,fun x=>by have:=bd x;omega,fr2,gR2,by omega,e0,e3,e5,e13,e14,e15,e20,e21,rfl⟩
  ·rintro e h2 ⟨cur,ch,rs,la,bd,fr,gR,hn2,e0,e3,e5,e13,e14,e15,e20,e21,e22⟩ K2 hx2
   rw [F.aZ.dx]
   simp only [e21,e22,aU,Nat.reduceAdd,Nat.reduceEqDiff,reduceIte,aR]
   rw [hx2,F.aZ.cw]
   simp only [e15,aU,Nat.reduceAdd,Nat.reduceEqDiff,reduceIte,aI hi (show rules.l.length≤cy by unfold cy;omega),bindO_some]
   rw [List.take_of_length_le (Nat.le_refl _),← Ak hv] at rs
   exact hn _ _ ⟨cur,ch,rs,la,fun x=>by have:=bd x;omega,fr,by omega,e0,e3,e13,e14,rfl⟩
 ·rintro e h' ⟨cur,ch,rs,la,bd,fr,hn',e0,e3,e13,e14,e15⟩ K' hx
  rw [F.aZ.aO]
  simp only [e14,e15,aU,Nat.reduceAdd,Nat.reduceEqDiff,reduceIte,aR]
  rw [hx,F.aZ.aD]
  rw [List.take_of_length_le (Nat.le_refl _)] at rs
  obtain ⟨d1,d2⟩:=rs.done
  simp only [bH,Nat.reduceEqDiff,reduceIte,e3]
  rw [d2]
  rw [d1] at la
  exact hK h' la fr hn'
end
end Go.AM
namespace Go.AM
open Go Go.Proofs
noncomputable section
theorem QO(x:Sl aE)(A M:Nat):gw [.nils,.nilm,.nilm] [(0,1),(1,1),(2,1)] [aq aM 3 x,.map A,.map M]=some (.agg [aq aM 3 x,.map A,.map M]):=by cases x<;>rfl
theorem QS(x:Sl aE)(A M:Nat):cK (.agg [aq aM 3 x,.map A,.map M])=some [aq aM 3 x,.map A,.map M]:=cU (by simp only [bN,ja];rfl)
def Al(m:dJ)(nm:bG)(n:Nat):Option dJ:=match m.find nm with
 |none=>some (m.oz nm n)
 |some k=>if k=(n:Int) then some (m.oz nm n) else none
def lY:List eX→dJ→Option dJ
 |[],m=>some m
 |c :: cs,m=>bif fQ c then (if c.kind=0 then (match Al m c.name c.args.l.length with|none=>none|some m'=>lY cs m') else lY cs m) else none
def dG:List aE→dJ→Option dJ
 |[],m=>some m
 |r :: rs,m=>bif kq r.name r.args.l then (match Al m r.name r.args.l.length with
   |none=>none
   |some m1=>if 20<r.body.l.length then none else if 12<(varsOf r).length then none else match lY r.body.l m1 with
    |none=>none
    |some m2=>dG rs m2) else none
theorem B9{α:Type}{l:List α}{i:Nat}{a:α}(h:l[i]?=some a):l.drop i=a :: l.drop (i+1):=by
 have hi:i<l.length:=(List.getElem?_eq_some_iff.1 h).1
 rw [List.drop_eq_getElem_cons hi]
 rw [List.getElem?_eq_getElem hi] at h
 cases h;rfl
theorem eY.add{hs:List bG}{h:ag}{M:Nat}{ks:List bG}(l:eY hs h M ks (fun _=>0))(hn:ks.Nodup)(nm:bG) :
  ∃ h' ks',ep .string (.map M) (.str nm) (.int .i64 0) h=some h'∧eY (hs++[nm]) h' M ks' (fun _=>0)∧ks'.Nodup∧(∀ b,b≠M→h'.get b=h.get b)∧h'.next=h.next:=by
 obtain ⟨es,ck,m,h1,h2,h3,h4,h5⟩:=l.ex
 obtain ⟨es',ck',q1,q2⟩:=zn h1 h2 nm 0
 have g:(h.set M (.map es' ck')).get M=some (.map es' ck'):=by rw [ag.aN,if_pos rfl]
 refine ⟨_,(m.oz nm 0).map (·.1),q1,⟨es',ck',_,g,q2,se h1 h3 q1 g,rfl,fun x=>?_⟩,B7 (by rw [h4];exact hn) nm 0,fun b hb=>by rw [ag.aN,if_neg hb],ag.next_set _ _ _⟩
 rw [rE,h5]
 by_cases hx:x=nm
 ·subst hx;simp
 ·simp [hx]
theorem eY.mem{hs:List bG}{h:ag}{M:Nat}{ks:List bG}{lv:Lev.Lv}(l:eY hs h M ks lv)(x:bG):x ∈ ks↔x ∈ hs:=by
 obtain ⟨es,ck,m,h1,h2,h3,h4,h5⟩:=l.ex
 rw [← h4]
 constructor
 ·intro hx
  obtain ⟨p,hp,rfl⟩:=List.mem_map.1 hx
  have h6:=h5 p.1
  by_cases hh:p.1 ∈ hs
  ·exact hh
  ·rw [if_neg hh] at h6
   unfold dJ.find at h6
   rw [Option.map_eq_none_iff,List.find?_eq_none] at h6
   exact absurd (h6 p hp) (by simp)
 ·intro hx
  have h6:=h5 x
  rw [if_pos hx] at h6
  exact List.mem_map.2 ⟨_,nO h6,rfl⟩
theorem eY.len{hs:List bG}{h:ag}{M:Nat}{ks:List bG}{lv:Lev.Lv}(l:eY hs h M ks lv):bz .map (.map M) h=some (.int .i64 (ks.length:Int)):=by
 obtain ⟨es,ck,m,h1,h2,h3,h4,h5⟩:=l.ex
 have:∀ (es:List Entry) (m:dJ),jb es m→es.length=m.length:=by
  intro es
  induction es with
  |nil=>intro m hm;cases m with
   |nil=>rfl
   |cons p m=>exact hm.elim
  |cons e es ih=>intro m hm;cases m with
   |nil=>exact hm.elim
   |cons p m=>rw [List.length_cons,List.length_cons,ih m hm.2.2]
 have hl:=this es m h2
 rw [← h4,List.length_map,← hl]
 simp [bz,jT,h1]
theorem Am:∀ {E:List Lev.Edge} {L:Lev.Lv} {N:Nat},(∀ e ∈ E,e.w≤1)→(∀ x,L x≤N)→∀ x,E.foldl Lev.fV L x≤N+E.length
 |[],L,N,_,h,x=>h x
 |e :: E,L,N,hw,h,x=>by
  have:=Am (E:=E) (L:=Lev.fV L e) (N:=N+1) (fun f hf=>hw f (List.mem_cons_of_mem _ hf)) (Lev.pQ h (hw e List.mem_cons_self)) x
  rw [List.length_cons]
  show E.foldl Lev.fV (Lev.fV L e) x≤_
  omega
theorem An(hs:List bG)(r:aE):∀ cs:List eX,(lH hs r cs).length≤cs.length
 |[]=>Nat.le_refl _
 |c :: cs=>by
  have:=An hs r cs
  have h1:(jZ hs r c).length≤1:=by unfold jZ;split<;>simp
  show (jZ hs r c++lH hs r cs).length≤_
  rw [List.length_append,List.length_cons];omega
theorem Ca(hs:List bG):∀ rs:List aE,(∀ r ∈ rs,r.body.l.length≤20)→(ji hs rs).length≤rs.length*20
 |[],_=>Nat.le_refl _
 |r :: rs,h=>by
  have h1:=Ca hs rs fun q hq=>h q (List.mem_cons_of_mem _ hq)
  have h2:=An hs r r.body.l
  have h3:=h r List.mem_cons_self
  show (lH hs r r.body.l++ji hs rs).length≤_
  rw [List.length_append,List.length_cons];omega
theorem mG{hs:List bG}{rs:List aE}{e:Lev.Edge}(he:e ∈ ji hs rs):∃ r ∈ rs,∃ c ∈ r.body.l,c.kind=0∧c.name ∈ hs∧e=eT r c:=by
 obtain ⟨r,hr,he⟩:=List.mem_flatMap.1 he
 obtain ⟨c,hc,he⟩:=List.mem_flatMap.1 he
 unfold jZ at he
 split at he
 ·rename_i h;rw [List.mem_singleton] at he;exact ⟨r,hr,c,hc,h.1,h.2,he⟩
 ·cases he
theorem Di(r:aE)(c:eX):(eT r c).w≤1:=by unfold eT;simp only;split<;>omega
theorem fZ:∀ {rs:List aE} {m m':dJ},dG rs m=some m'→∀ r ∈ rs,kq r.name r.args.l=true∧r.body.l.length≤20∧(varsOf r).length≤12
 |[],_,_,_,r,hr=>by cases hr
 |r0 :: rs,m,m',h,r,hr=>by
  rw [dG] at h
  cases ha:kq r0.name r0.args.l with
  |false=>rw [ha] at h;cases h
  |true=>
   rw [ha,cond_true] at h
   split at h
   ·cases h
   ·split at h
    ·cases h
    ·split at h
     ·cases h
     ·split at h
      ·cases h
      ·rcases List.mem_cons.1 hr with rfl|hr
       ·exact ⟨ha,by omega,by omega⟩
       ·exact fZ h r hr
def bC(rs:List aE):List bG:=rs.map (·.name)
def bO(rs:List aE):List Lev.Edge:=ji (bC rs) rs
structure jN (rs:List aE):Prop where
 lB:rs.length≤60
 go:∃ m,dG rs []=some m
 lev:∃ k,Lev.cZ (bO rs) (Lev.iter (bO rs) k)
theorem td{rs:List aE}(h60:rs.length≤60)(h20:∀ r ∈ rs,r.body.l.length≤20):∀ k x,Lev.iter (bO rs) k x≤k*1200
 |0,x=>Nat.zero_le _
 |k+1,x=>by
  have h1:=Am (E:=bO rs) (L:=Lev.iter (bO rs) k) (N:=k*1200) (fun e he=>by obtain ⟨r,_,c,_,_,_,rfl⟩:=mG he;exact Di r c) (td h60 h20 k) x
  have h2:(bO rs).length≤rs.length*20:=Ca _ rs h20
  show (bO rs).foldl Lev.fV (Lev.iter (bO rs) k) x≤_
  omega
end
end Go.AM
namespace Go.AM
open Go Go.Proofs
noncomputable section
def HY(m:dJ)(nm:bG)(n:Nat):Bool:=match m.find nm with|none=>true|some k=>decide (k=(n:Int))
theorem Cb(m:dJ)(nm:bG)(n:Nat):Al m nm n=if HY m nm n=true then some (m.oz nm n) else none:=by
 unfold Al HY
 cases m.find nm with
 |none=>rfl
 |some k=>by_cases h:k=(n:Int)<;>simp [h]
end
end Go.AM
namespace Go.AM
open Go Go.Proofs
noncomputable section
theorem Ez(n:Int):bN (encI n)=true:=rfl
theorem JB(n:Int):fc [.int .i64 0] [(0,1)] [.int .i64 n]=some (encI n):=rfl
theorem EA{s:bG}(h:dX s=true):s.length≤12:=by
 cases s with
 |nil=>exact Nat.zero_le _
 |cons c s=>
  simp only [dX,Bool.and_eq_true] at h
  simp only [decide_eq_true_eq] at h
  omega
theorem tg{nm:bG}{xs:List bG}(h:kq nm xs=true):dX nm=true:=by
 unfold kq at h;rw [Bool.and_eq_true] at h;exact h.1
theorem eY.Rh{hs:List bG}{h:ag}{M:Nat}{ks:List bG}{lv:Lev.Lv}(l:eY hs h M ks lv)(hks:ks.Nodup)(hlen:∀ s ∈ ks,s.length≤1000) :
  ∃ es ck,h.get M=some (.map es ck)∧oB ck es=true∧es.map keyBytes=ks∧es.length=ks.length:=by
 obtain ⟨es,ck,m,h1,h2,h3,h4,h5⟩:=l.ex
 have hk:es.map keyBytes=ks:=by rw [G5 h2,h4]
 refine ⟨es,ck,h1,B8 (fun e he=>?_) (by rw [hk];exact hks) h3.nodup,hk,by rw [← hk,List.length_map]⟩
 obtain ⟨p,hp,q1,q2⟩:=h2.mem e he
 exact ⟨⟨p.1,q1,hlen _ (by rw [← h4];exact List.mem_map_of_mem hp)⟩,h3.lt e he⟩
end
end Go.AM
namespace Go.AM
open Go Go.Proofs
noncomputable section
def eN(t:Sl Int):List AV:=[aq encI 1 t]
theorem uD(t:Sl Int):(eN t).length=1:=rfl
theorem l9(t:Sl Int):AV.pureL (eN t)=true:=by simp [eN,AV.pureL,b8 nI]
theorem iG{l:List (Sl Int)}{i:Nat}{t:Sl Int}(ht:l[i]?=some t){h:ag}:ai none (.iptr (l.flatMap eN) (i*1)) h=some (aq encI 1 t):=by
 rw [ou uD ht];rfl
section
variable {α:Type} {enc:α→List AV} {sz k:Nat}
end
abbrev PB:=Nat×List Int
def vS(p:PB):List AV:=[.slice p.1 0 p.2.length 1]
theorem Ao(p:PB):(vS p).length=1:=rfl
theorem JC(p:PB):bN (vS p)=true:=rfl
structure qB (k:Nat) (h:ag) (a:AV) (ps:List PB):Prop where
 own:Own vS 1 k h a ps
 cell:∀ p ∈ ps,k≤p.1∧p.1<h.next∧de a≠some p.1∧h.get p.1=some (.cells (p.2.map iv))
theorem qB.nil(k:Nat)(h:ag):qB k h .nils []:=⟨.nil,fun p hp=>by cases hp⟩
theorem qB.ext{k:Nat}{h h':ag}{a:AV}{ps:List PB}(n:qB k h a ps)(hx:bJ h h'):qB k h' a ps:=
 ⟨n.own.ext hx,fun p hp=>by
  obtain ⟨h1,h2,h3,h4⟩:=n.cell p hp
  exact ⟨h1,Nat.lt_of_lt_of_le h2 hx.next,h3,by rw [hx.get _ h2];exact h4⟩⟩
theorem qB.sj{old:Bool}{k:Nat}{h:ag}{a:AV}{ps:List PB}(n:qB k h a ps):∃ x:Sl (Sl Int),x.l.map Sl.l=ps.map (·.2)∧Fz old h a (aq eN 1 x):=by
 obtain ⟨o,hc⟩:=n
 cases o with
 |nil=>exact ⟨none,rfl,.scalar _ rfl⟩
 |row b ps h1 h2 h3=>
  refine ⟨some (ps.map fun p=>some p.2),by simp [List.map_map,Function.comp_def],?_⟩
  have e1:ps.flatMap vS=ps.map fun p=>AV.slice p.1 0 p.2.length 1:=by
   induction ps with
   |nil=>rfl
   |cons p ps ih=>rw [List.flatMap_cons,List.map_cons];exact congrArg _ (by
     clear ih h3 hc
     induction ps with
     |nil=>rfl
     |cons q ps ih=>rw [List.flatMap_cons,List.map_cons,ih];rfl)
  have e2:(ps.map fun p=>(some p.2:Sl Int)).flatMap eN=ps.map fun p=>aq encI 1 (some p.2):=by
   clear h3 hc e1
   induction ps with
   |nil=>rfl
   |cons q ps ih=>rw [List.map_cons,List.flatMap_cons,List.map_cons,ih];rfl
  rw [e1] at h3
  have hf:Fz old h (.slice b 0 ps.length 1) (.islice (ps.map fun p=>aq encI 1 (some p.2)) 0 ps.length 1):=by
   refine .slice b 0 ps.length 1 _ _ h3 (by simp) fun i x y hx hy=>?_
   rw [List.getElem?_map] at hx hy
   obtain ⟨p,hp,rfl⟩:=Option.map_eq_some_iff.1 hx
   rw [hp] at hy;cases hy
   exact oL (hc p (List.mem_of_getElem? hp)).2.2.2
  have:aq eN 1 (some (ps.map fun p=>(some p.2:Sl Int))) = .islice (ps.map fun p=>aq encI 1 (some p.2)) 0 ps.length 1:=by
   simp only [aq,e2,List.length_map]
  rw [this];exact hf
theorem qB.push{k:Nat}{h:ag}{a:AV}{ps:List PB}(n:qB k h a ps)(hk:k≤h.next)(hroom:(ps.length+1)*24≤cX)(p:PB)(p1:k≤p.1)(p2:p.1<h.next)(p3:de a≠some p.1)(p4:h.get p.1=some (.cells (p.2.map iv))) :
  ∃ a' h',cg 1 24 a (.slice h.next 0 1 1) (h.alloc (.cells (vS p)))=some (a',h')∧qB k h' a' (ps++[p])∧h.next≤h'.next∧(∀ c,c<h.next→de a≠some c→h'.get c=h.get c)∧(∀ h0,bJ h0 h→h0.next≤k→bJ h0 h')∧∀ c,de a'=some c→h.next≤c:=by
 obtain ⟨a',h',e1,o1,f1,n1,x1,b1⟩:=n.own.push Ao JC hk hroom p
 refine ⟨a',h',e1,⟨o1,fun q hq=>?_⟩,n1,f1,x1,b1⟩
 have hq':k≤q.1∧q.1<h.next∧de a≠some q.1∧h.get q.1=some (.cells (q.2.map iv)):=by
  rcases List.mem_append.1 hq with hq|hq
  ·exact n.cell q hq
  ·rw [List.mem_singleton] at hq;subst hq;exact ⟨p1,p2,p3,p4⟩
 obtain ⟨q1,q2,q3,q4⟩:=hq'
 exact ⟨q1,by omega,fun hb=>by have:=b1 _ hb;omega,by rw [f1 _ q2 q3];exact q4⟩
theorem qB.at_{k:Nat}{h:ag}{a:AV}{ps:List PB}(n:qB k h a ps){i:Nat}{p:PB}(hp:ps[i]?=some p) :
  ∃ b,(∀ q:IntKind,cS 1 a (.int q (i:Int))=some (.ptr b (i*1)))∧b<h.next∧(∀ h',bJ h h'→ai none (.ptr b (i*1)) h'=some (.slice p.1 0 p.2.length 1)):=by
 obtain ⟨b,b1,b2,b3,_,b5⟩:=n.own.get Ao hp
 refine ⟨b,b3,b2,fun h' hx=>?_⟩
 obtain ⟨b',_,_,c3,_,c5⟩:=(n.own.ext hx).get Ao hp
 obtain rfl:b=b':=by have:=b3 .i64;rw [c3 .i64] at this;cases this;rfl
 have:=c5 0 (by omega)
 rw [Nat.add_zero] at this
 rw [this];rfl
theorem JD{h:ag}{b:Nat}{l:List Int}(hb:h.get b=some (.cells (l.map iv)))(hbn:b<h.next)(hl:l.length≤1000000)(x:Int) :
  ∃ b' h',cg 1 8 (.slice b 0 l.length 1) (.slice h.next 0 1 1) (h.alloc (.cells [.int .i64 x]))=some (.slice b' 0 (l++[x]).length 1,h')∧h'.get b'=some (.cells ((l++[x]).map iv))∧(∀ c,c<h.next→c≠b→h'.get c=h.get c)∧h.next≤b'∧b'<h'.next:=by
 have hm:cX=140737488355328:=rfl
 have g:(h.alloc (.cells [.int .i64 x])).get h.next=some (.cells [.int .i64 x]):=aB _ _
 have g2:(h.alloc (.cells [.int .i64 x])).get b=some (.cells (l.map iv)):=by rw [ag.bf,if_neg (by omega)];exact hb
 refine ⟨h.next+1,((h.alloc (.cells [.int .i64 x])).set b .dead).alloc (.cells ((l++[x]).map iv)),?_,?_,fun c hc hcb=>?_,by omega,?_⟩
 ·have hf:gY 1 1 (.slice h.next 0 1 1) (h.alloc (.cells [.int .i64 x]))=some [.int .i64 x]:=by simp [gY,g]
  simp only [cg,ku,hf,if_true,g2]
  rw [if_neg (by decide),if_pos (by simp [bN,AV.one];omega)]
  simp only [ag.next_set,ag.next_alloc,List.drop_zero,Nat.mul_one]
  congr 2
  ·simp
  ·congr 2
   rw [List.take_of_length_le (by simp),List.map_append];rfl
 ·have:=aB ((h.alloc (.cells [.int .i64 x])).set b .dead) (.cells ((l++[x]).map iv))
  rwa [ag.next_set,ag.next_alloc] at this
 ·rw [ag.bf,ag.next_set,ag.next_alloc,if_neg (by omega),ag.aN,if_neg hcb,ag.bf,if_neg (by omega)]
 ·rw [ag.next_alloc,ag.next_set,ag.next_alloc];omega
end
end Go.AM
namespace Go.AM
open Go Go.Proofs
noncomputable section
theorem Dj{n:Nat}(h1:1≤n){i k:Nat}(h:i≤k):n ^ i≤n ^ k:=Nat.pow_le_pow_right h1 h
theorem qC(n:Nat):∀ (a b:List Int) (r:Nat),pM n (a++b) r=pM n b (pM n a r)
 |[],_,_=>rfl
 |x :: a,b,r=>qC n a b _
theorem G8{n:Nat}:∀ (l:List Int) (r i:Nat),ir n l=true→r<n ^ i→pM n l r<n ^ (i+l.length)
 |[],r,i,_,h=>h
 |x :: l,r,i,hb,h=>by
  simp only [ir,List.all_cons,Bool.and_eq_true,Bool.not_eq_true',decide_eq_false_iff_not] at hb
  have:r*n+x.toNat<n ^ (i+1):=by
   have h1:(r+1)*n≤n ^ i*n:=Nat.mul_le_mul_right n h
   rw [Nat.succ_mul] at h1
   rw [Nat.pow_succ]
   omega
  have:=G8 l (r*n+x.toNat) (i+1) (by rw [ir,List.all_eq_true];simpa using hb.2) this
  rw [List.length_cons,show i+(l.length+1)=i+1+l.length by omega]
  exact this
theorem mH{n:Nat}{l:List Int}(hb:ir n l=true):iL n l<n ^ l.length:=by
 have:=G8 l 0 0 hb (by simp)
 rw [Nat.zero_add] at this
 exact this
theorem JE{n:Nat}{l:List Int}{i:Nat}{v:Int}(hv:l[i]?=some v):iL n (l.take (i+1))=iL n (l.take i)*n+v.toNat:=by
 rw [iL,List.take_add_one,hv,qC];rfl
theorem Mp{n:Int}{l:List Int}(hb:ir n l=true)(i:Nat):ir n (l.take i)=true:=by
 unfold ir at hb ⊢
 rw [List.all_eq_true] at hb ⊢
 exact fun x hx=>hb x (List.mem_of_mem_take hx)
theorem JF{n:Int}{l:List Int}(hb:ir n l=true){i:Nat}{v:Int}(hv:l[i]?=some v):0≤v∧v<n:=by
 unfold ir at hb
 rw [List.all_eq_true] at hb
 have:=hb v (List.mem_of_getElem? hv)
 simp at this;omega
theorem k9{n:Nat}{l:List Int}(hb:ir n l=true)(h1:1≤n)(hc:n ^ l.length≤4096){i:Nat}{v:Int}(hv:l[i]?=some v) :
  aA .mul (.int .i64 ((iL n (l.take i):Nat):Int)) (.int .i64 (n:Int))=some (.int .i64 ((iL n (l.take i)*n:Nat):Int)) ∧
  aA .add (.int .i64 ((iL n (l.take i)*n:Nat):Int)) (.int .i64 v)=some (.int .i64 ((iL n (l.take (i+1)):Nat):Int)):=by
 have hi:i<l.length:=(List.getElem?_eq_some_iff.1 hv).1
 have hlt:iL n (l.take (i+1))<n ^ (l.take (i+1)).length:=mH (Mp hb _)
 have hp:n ^ (l.take (i+1)).length≤4096:=Nat.le_trans (Dj h1 (by rw [List.length_take];omega)) hc
 obtain ⟨v0,v1⟩:=JF hb hv
 have he:iL n (l.take (i+1))=iL n (l.take i)*n+v.toNat:=JE hv
 have hm:((iL n (l.take i):Nat):Int)*(n:Int)=((iL n (l.take i)*n:Nat):Int):=by rw [Int.natCast_mul]
 have hs:((iL n (l.take i)*n:Nat):Int)+v=((iL n (l.take (i+1)):Nat):Int):=by omega
 exact ⟨by rw [rz (by rw [hm];omega) (by rw [hm];omega),hm],by rw [gH (by rw [hs];omega) (by rw [hs];omega),hs]⟩
def gQ:List Int→List Int→Bool
 |a :: l,b :: m=>if a=b then gQ l m else decide (a<b)
 |_,_=>false
structure Rel where
 name:bG
 arity:Int
 tuples:Sl (Sl Int)
structure ej where
 size:Int
 rels:Sl Rel
def BA(p:Nat→Bool)(n:Nat):Bool:=(List.range n).all p
def j4(n k:Nat)(l:List (Sl Int))(i:Nat):Bool:=match l[i]? with
 |none=>true
 |some t=>decide (t.l.length=k)&&(ir n t.l&&(match i with
  |0=>true
  |j+1=>match l[j]? with
   |none=>true
   |some p=>gQ p.l t.l))
def tj(n k:Nat)(l:List (Sl Int)):Bool:=BA (j4 n k l) l.length
def ki(n:Nat)(r:Rel):Bool:=dX r.name&&(decide (0≤r.arity)&&(decide (r.arity≤12)&&(decide (n ^ r.arity.toNat≤4096)&&tj n r.arity.toNat r.tuples.l)))
def mI(s:ej)(i:Nat):Bool:=match s.rels.l[i]? with
 |none=>true
 |some r=>ki s.size.toNat r&&!((s.rels.l.take i).any fun q=>q.name==r.name)
def dP(s:ej):Bool:=decide (1≤s.size)&&(decide (s.size≤64)&&(decide (s.rels.l.length≤8)&&BA (mI s) s.rels.l.length))
theorem EB{b:Nat}{h:ag}{es:List Entry}{ck:Nat}{m:kF}(hb:h.get b=some (.map es ck))(hm:qu es m)(z:AV)(k:bG) :
  dz .string z false (.map b) (.str k) h=some ((m.find k).getD z):=by
 obtain ⟨r,hr,hm'⟩:=qu.iC (k:=k) 0 hm
 simp only [dz,jT,hb,nB,nA,if_true,hr]
 cases r with
 |none=>simp at hm';simp [hm']
 |some jv=>
  obtain ⟨n,_,b,_⟩:=hm'
  obtain ⟨j,v⟩:=jv
  simp [b]
def bv(b:Bool):AV:=.bool b
theorem uE{b i:Nat}{h:ag}{d:List Bool}{v:Bool}(hb:h.get b=some (.cells (d.map bv)))(hv:d[i]?=some v):ai none (.ptr b i) h=some (.bool v):=by
 rw [ak hb,nH,List.getElem?_map,hv];rfl
theorem uF{b i:Nat}{h:ag}{d:List Bool}{v:Bool}(hb:h.get b=some (.cells (d.map bv)))(hi:i<d.length):bp 1 (.ptr b i) (.bool v) h=some (h.set b (.cells ((d.set i v).map bv))):=by
 rw [cT (n:=1) hb rfl rfl (by simp;omega),List.map_set];rfl
theorem NA(n:Nat):gZ [.bool false] n=(List.replicate n false).map bv:=by
 induction n with
 |zero=>rfl
 |succ n ih=>rw [gZ,ih];rfl
theorem Dk{n:Nat}(hn:n≤1000000)(h:ag):c8 1 1 [.bool false] (.int .i64 (n:Int)) (.int .i64 (n:Int)) h=some (.slice h.next 0 n 1,h.alloc (.cells ((List.replicate n false).map bv))):=by
 have:((n:Int))≤140737488355328:=by omega
 simp [c8,uZ,this,NA]
def j5(n:Nat):List (Sl Int)→List Bool→List Bool
 |[],d=>d
 |t :: ts,d=>j5 n ts (d.set (iL n t.l) true)
theorem Cc{n:Nat}{l:List (Sl Int)}{i:Nat}{t:Sl Int}(ht:l[i]?=some t)(d:List Bool):j5 n (l.drop i) d=j5 n (l.drop (i+1)) (d.set (iL n t.l) true):=by
 have h1:=(List.getElem?_eq_some_iff.1 ht).1
 rw [List.drop_eq_getElem_cons h1]
 rw [List.getElem?_eq_getElem h1] at ht
 cases ht;rfl
theorem Ap(n:Nat):∀ (l:List (Sl Int)) (d:List Bool),(j5 n l d).length=d.length
 |[],_=>rfl
 |t :: l,d=>by rw [j5,Ap n l];simp
def bitsOf(n k:Nat)(ts:List (Sl Int)):List Bool:=j5 n ts (List.replicate (n ^ k) false)
theorem kH(n k:Nat)(ts:List (Sl Int)):(bitsOf n k ts).length=n ^ k:=by rw [bitsOf,Ap];simp
structure ec (D:bG→Option (Nat×List Bool)) (h:ag) (B lo:Nat):Prop where
 ex:∃ es ck m,h.get B=some (.map es ck)∧qu es m∧∀ nm,m.find nm=(D nm).map fun p=>.slice p.1 0 p.2.length 1
 blk:∀ nm p,D nm=some p→lo≤p.1∧p.1<h.next∧p.1≠B∧h.get p.1=some (.cells (p.2.map bv))
 inj:∀ nm nm' p p',D nm=some p→D nm'=some p'→p.1=p'.1→nm=nm'
 lt:B<h.next
theorem ec.ext{D:bG→Option (Nat×List Bool)}{h h':ag}{B lo:Nat}(b:ec D h B lo)(hx:bJ h h'):ec D h' B lo:=by
 obtain ⟨es,ck,m,h1,h2,h3⟩:=b.ex
 refine ⟨⟨es,ck,m,by rw [hx.get _ b.lt];exact h1,h2,h3⟩,fun nm p hp=>?_,b.inj,Nat.lt_of_lt_of_le b.lt hx.next⟩
 obtain ⟨q1,q2,q3,q4⟩:=b.blk nm p hp
 exact ⟨q1,Nat.lt_of_lt_of_le q2 hx.next,q3,by rw [hx.get _ q2];exact q4⟩
def cY(r:Rel):bG×Int×List (List Int):=(r.name,r.arity,r.tuples.l.map Sl.l)
abbrev NB:=bG×Int×List (List Int)
def jw(D:bG→Option (Nat×List Bool))(nm:bG)(b:Nat)(d:List Bool):bG→Option (Nat×List Bool):=fun j=>if j=nm then some (b,d) else D j
theorem ec.set{D:bG→Option (Nat×List Bool)}{h:ag}{B lo:Nat}(H:ec D h B lo){nm:bG}{p:Nat×List Bool}(hp:D nm=some p){d:List Bool}(hd:d.length=p.2.length):ec (jw D nm p.1 d) (h.set p.1 (.cells (d.map bv))) B lo:=by
 obtain ⟨es,ck,m,h1,h2,h3⟩:=H.ex
 obtain ⟨k1,k2,k3,k4⟩:=H.blk nm p hp
 refine ⟨⟨es,ck,m,by rw [ag.aN,if_neg (Ne.symm k3)];exact h1,h2,fun j=>?_⟩,fun j q hq=>?_,fun j j' q q' hq hq' hqq=>?_,by rw [ag.next_set];exact H.lt⟩
 ·rw [h3];unfold jw
  by_cases e:j=nm
  ·subst e;rw [if_pos rfl,hp,Option.map_some,Option.map_some,hd]
  ·rw [if_neg e]
 ·unfold jw at hq
  by_cases e:j=nm
  ·rw [if_pos e] at hq;cases hq
   exact ⟨k1,by rw [ag.next_set];exact k2,k3,by rw [ag.aN,if_pos rfl]⟩
  ·rw [if_neg e] at hq
   obtain ⟨q1,q2,q3,q4⟩:=H.blk j q hq
   exact ⟨q1,by rw [ag.next_set];exact q2,q3,by rw [ag.aN,if_neg (fun e'=>e (H.inj j nm q p hq hp e'))];exact q4⟩
 ·unfold jw at hq hq'
  by_cases e:j=nm
  ·by_cases e':j'=nm
   ·rw [e,e']
   ·rw [if_pos e] at hq;rw [if_neg e'] at hq';cases hq
    exact absurd (H.inj nm j' p q' hp hq' hqq).symm e'
  ·by_cases e':j'=nm
   ·rw [if_neg e] at hq;rw [if_pos e'] at hq';cases hq'
    exact absurd (H.inj j nm q p hq hp hqq) e
   ·rw [if_neg e] at hq;rw [if_neg e'] at hq';exact H.inj j j' q q' hq hq' hqq
end
end Go.AM
namespace Go.AM
open Go Go.Proofs
noncomputable section
theorem F6{S n:Nat}{R:AV}{h:ag}(hS:h.get S=some (.cells [.int .i64 (n:Int),R]))(h1:1≤n){x:Sl Int}(hx:x.l.length≤12)(hc:n ^ x.l.length≤4096)(hb:ir n x.l=true){K:Out→ag→Bool}
  (hK:K (.ret (.int .i64 ((iL n x.l:Nat):Int))) h=true):Sem Tryz.prog 69 [.ptr S 0,aq encI 1 x] h K:=by
 have hbig:x.l.length≤cy:=by unfold cy;omega
 refine F.k7 ?_
 simp only [aU,Nat.reduceAdd,Nat.reduceEqDiff,reduceIte]
 refine aC 0 x.l.length (Nat.zero_le _) (fun i e h'=>h'=h∧e 0 = .ptr S 0∧e 5 = .int .i64 ((iL n (x.l.take i):Nat):Int)∧e 8=aq encI 1 x∧e 9 = .int .i64 (x.l.length:Int)∧e 10 = .int .i64 (i:Int)) ⟨rfl,rfl,rfl,rfl,rfl,rfl⟩ ?_ ?_
 ·rintro i e h' _ hi ⟨rfl,e0,e5,e8,e9,e10⟩ K' hn hx' hr hp
  have hv:x.l[i]?=some x.l[i]:=List.getElem?_eq_getElem hi
  rw [F.cF.aO]
  simp only [e0,e5,e8,e9,e10,aU,Nat.reduceAdd,Nat.reduceEqDiff,reduceIte,bX,ak hS,bg hi,aW x hi,fN hv,(k9 hb h1 hc hv).1,(k9 hb h1 hc hv).2,aI hi hbig]
  exact hn _ _ ⟨rfl,e0,rfl,e8,e9,rfl⟩
 ·rintro e h' ⟨rfl,e0,e5,e8,e9,e10⟩ K' hx'
  rw [F.cF.aO]
  simp only [e9,e10,aU,Nat.reduceAdd,Nat.reduceEqDiff,reduceIte,aR]
  rw [hx',F.cF.aD]
  simp only [e5,bH,Nat.reduceEqDiff,reduceIte]
  rw [List.take_of_length_le (Nat.le_refl _)]
  exact hK
def bM(vs:List Int)(ps:List Nat):List Int:=ps.map fun p=>vs.getD p 0
theorem G9{V n:Nat}{vs:List Int}{h:ag}(hV:h.get V=some (.cells (vs.map iv)))(hVn:V<h.next)(hn:n=vs.length){ps:List Nat}{x:Sl Int}(hxp:x.l=ps.map fun (p:Nat)=>(p:Int))(hps:∀ p ∈ ps,p<vs.length)(hpl:ps.length≤1000000){K:Out→ag→Bool}
  (hK:∀ h',h'.get h.next=some (.cells ((bM vs ps).map iv))→bJ h h'→h.next<h'.next→K (.ret (.slice h.next 0 ps.length 1)) h'=true):Sem Tryz.prog 124 [.slice V 0 n 1,aq encI 1 x] h K:=by
 subst hn
 have hpb:ps.length≤cy:=by unfold cy;omega
 have hl:x.l.length=ps.length:=by rw [hxp];simp
 refine F.zN ?_
 simp only [aU,Nat.reduceAdd,Nat.reduceEqDiff,reduceIte,hl,rD hpl]
 have g0:=aB h (.cells ((List.replicate ps.length (0:Int)).map iv))
 have x0:=bJ.alloc h (.cells ((List.replicate ps.length (0:Int)).map iv))
 have n0:(h.alloc (.cells ((List.replicate ps.length (0:Int)).map iv))).next=h.next+1:=ag.next_alloc _ _
 generalize h.alloc (.cells ((List.replicate ps.length (0:Int)).map iv))=H at g0 x0 n0 ⊢
 refine aC 0 ps.length (Nat.zero_le _) (fun i e h'=>∃ d:List Int,d.length=ps.length∧d.take i=(bM vs ps).take i∧h'.get h.next=some (.cells (d.map iv))∧bJ h h'∧h.next<h'.next ∧
  e 0 = .slice V 0 vs.length 1∧e 5 = .slice h.next 0 ps.length 1∧e 11=aq encI 1 x∧e 12 = .int .i64 (ps.length:Int)∧e 13 = .int .i64 (i:Int)) ⟨List.replicate ps.length 0,by simp,rfl,g0,x0,by omega,rfl,rfl,rfl,rfl,rfl⟩ ?_ ?_
 ·rintro i e h' _ hi ⟨d,dl,dt,q0,qx,qn,e0,e5,e11,e12,e13⟩ K' hn hx hr hp
  have hv:ps[i]?=some ps[i]:=List.getElem?_eq_getElem hi
  generalize ps[i]=p at hv
  have hv':x.l[i]?=some (p:Int):=by rw [hxp,List.getElem?_map,hv];rfl
  have hpv:=hps p (List.mem_of_getElem? hv)
  have hw:vs[p]?=some (vs.getD p 0):=by rw [List.getD_eq_getElem?_getD,List.getElem?_eq_getElem hpv];rfl
  have qV:h'.get V=some (.cells (vs.map iv)):=by rw [qx.get V hVn];exact hV
  have i1:=aW (enc:=encI) (sz:=1) (k:=.i64) x (i:=i) (by rw [hl];exact hi)
  have l1:=fun h=>fN (x:=x) hv' (h:=h)
  rw [F.fO.aO]
  simp only [e0,e5,e11,e12,e13,aU,Nat.reduceAdd,Nat.reduceEqDiff,reduceIte,bg hi,i1,l1,jh hpv,jY qV hw,jh hi,mC q0 (show i<d.length by omega),aI hi hpb]
  refine hn _ _ ⟨d.set i (vs.getD p 0),by simp [dl],?_,by rw [ag.aN,if_pos rfl],qx.set (Nat.le_refl _) _,by rw [ag.next_set];exact qn,e0,e5,e11,e12,rfl⟩
  have hpk:(bM vs ps)[i]?=some (vs.getD p 0):=by unfold bM;rw [List.getElem?_map,hv];rfl
  rw [List.take_add_one,List.take_add_one,hpk,List.take_set_of_le (Nat.le_refl _),dt,List.getElem?_set,if_pos rfl,if_pos (by omega)]
 ·rintro e h' ⟨d,dl,dt,q0,qx,qn,e0,e5,e11,e12,e13⟩ K' hx
  rw [F.fO.aO]
  simp only [e12,e13,aU,Nat.reduceAdd,Nat.reduceEqDiff,reduceIte,aR]
  rw [hx,F.fO.aD]
  simp only [e5,bH,Nat.reduceEqDiff,reduceIte]
  have:d=bM vs ps:=by
   have h1:d.take ps.length=d:=List.take_of_length_le (by omega)
   have h2:(bM vs ps).take ps.length=bM vs ps:=List.take_of_length_le (by simp [bM])
   rw [← h1,dt,h2]
  rw [this] at q0
  exact hK h' q0 qx qn
end
end Go.AM
namespace Go.AM
open Go Go.Proofs
noncomputable section
theorem xd{S n T:Nat}{R:AV}{h:ag}(hS:h.get S=some (.cells [.int .i64 (n:Int),R]))(h1:1≤n){t:List Int}(hT:h.get T=some (.cells (t.map iv)))(hx:t.length≤12)(hc:n ^ t.length≤4096)(hb:ir n t=true){K:Out→ag→Bool}
  (hK:K (.ret (.int .i64 ((iL n t:Nat):Int))) h=true):Sem Tryz.prog 69 [.ptr S 0,.slice T 0 t.length 1] h K:=by
 have hbig:t.length≤cy:=by unfold cy;omega
 have hl:∀ h,bz .slice (.slice T 0 t.length 1) h=some (.int .i64 (t.length:Int)):=fun _=>rfl
 refine F.k7 ?_
 simp only [aU,Nat.reduceAdd,Nat.reduceEqDiff,reduceIte,hl]
 refine aC 0 t.length (Nat.zero_le _) (fun i e h'=>h'=h∧e 0 = .ptr S 0∧e 5 = .int .i64 ((iL n (t.take i):Nat):Int)∧e 8 = .slice T 0 t.length 1∧e 9 = .int .i64 (t.length:Int)∧e 10 = .int .i64 (i:Int)) ⟨rfl,rfl,rfl,rfl,rfl,rfl⟩ ?_ ?_
 ·rintro i e h' _ hi ⟨rfl,e0,e5,e8,e9,e10⟩ K' hn hx' hr hp
  have hv:t[i]?=some t[i]:=List.getElem?_eq_getElem hi
  rw [F.cF.aO]
  simp only [e0,e5,e8,e9,e10,aU,Nat.reduceAdd,Nat.reduceEqDiff,reduceIte,bX,ak hS,bg hi,jh hi,jY hT hv,(k9 hb h1 hc hv).1,(k9 hb h1 hc hv).2,aI hi hbig]
  exact hn _ _ ⟨rfl,e0,rfl,e8,e9,rfl⟩
 ·rintro e h' ⟨rfl,e0,e5,e8,e9,e10⟩ K' hx'
  rw [F.cF.aO]
  simp only [e9,e10,aU,Nat.reduceAdd,Nat.reduceEqDiff,reduceIte,aR]
  rw [hx',F.cF.aD]
  simp only [e5,bH,Nat.reduceEqDiff,reduceIte]
  rw [List.take_of_length_le (Nat.le_refl _)]
  exact hK
def eG(D:bG→Option (Nat×List Bool))(nm:bG)(r:Nat):Bool:=match D nm with|some p=>p.2.getD r false|none=>false
theorem ec.look{D:bG→Option (Nat×List Bool)}{h:ag}{B lo:Nat}(b:ec D h B lo){nm:bG}{p:Nat×List Bool}(hp:D nm=some p):dz .string .nils false (.map B) (.str nm) h=some (.slice p.1 0 p.2.length 1):=by
 obtain ⟨es,ck,m,h1,h2,h3⟩:=b.ex
 rw [EB h1 h2,h3,hp];rfl
def eV(n:Nat)(look:bG→Nat→Bool)(c:eX)(t:List Int):Bool:=
 (if c.kind=0 then look c.name (iL n t) else if c.kind=1 then decide (t.getD 0 0=t.getD 1 0) else decide (t.getD 0 0<t.getD 1 0)) != c.neg
theorem EC{S B n lo T:Nat}{D:bG→Option (Nat×List Bool)}{h:ag}(hS:h.get S=some (.cells [.int .i64 (n:Int),.map B]))(hD:ec D h B lo)(n1:1≤n){c:eX}{t:List Int}(hT:h.get T=some (.cells (t.map iv)))(hTn:T<h.next)(hSn:S<h.next)
  (ht:t.length≤12) (hb:ir n t=true) (hc:c.kind=0→n ^ t.length≤4096∧∃ p,D c.name=some p∧p.2.length=n ^ t.length) (hk:c.kind=1∨c.kind=2→t.length=2) (hkk:c.kind=0∨c.kind=1∨c.kind=2) {K:Out→ag→Bool}
  (hK:∀ h',bJ h h'→K (.ret (.bool (eV n (eG D) c t))) h'=true):Sem Tryz.prog 129 [.ptr S 0,.agg [.int .i64 c.kind,.bool c.neg,.str c.name,aq encS 1 c.args],.slice T 0 t.length 1] h K:=by
 refine F.pH ?_
 have hbx:cK (.agg [.int .i64 c.kind,.bool c.neg,.str c.name,aq encS 1 c.args])=some (bY c):=cU (gN c)
 have g0:(ag.alloc h (.cells (bY c))).get h.next=some (.cells (bY c)):=aB _ _
 have gx:bJ h (ag.alloc h (.cells (bY c))):=bJ.alloc _ _
 simp only [hbx,bindO_some]
 generalize (ag.alloc h (.cells (bY c)))=H at g0 gx ⊢
 have gS:H.get S=some (.cells [.int .i64 (n:Int),.map B]):=by rw [gx.get S hSn];exact hS
 have gT:H.get T=some (.cells (t.map iv)):=by rw [gx.get T hTn];exact hT
 have gD:=hD.ext gx
 simp only [aU,Nat.reduceAdd,Nat.reduceEqDiff,reduceIte,ak g0,bY,cQ]
 by_cases k0:c.kind=0
 ·obtain ⟨hpow,p,hp,hpl⟩:=hc k0
  have hrk:iL n t<p.2.length:=by rw [hpl];exact mH hb
  have hbit:p.2[iL n t]?=some (p.2.getD (iL n t) false):=by rw [List.getD_eq_getElem?_getD,List.getElem?_eq_getElem hrk];rfl
  obtain ⟨_,_,_,gp⟩:=gD.blk c.name p hp
  simp only [decide_eq_true k0,aJ,aU,Nat.reduceAdd,Nat.reduceEqDiff,reduceIte,bX,ak gS,ak g0,bY,gD.look hp]
  refine an (xd gS n1 gT ht hpow hb ?_)
  simp only [aU,Nat.reduceAdd,Nat.reduceEqDiff,reduceIte,ak gS,ak g0,bY,gD.look hp,AV.beq_refl,Bool.and_self,Bool.and_true,if_true,jh hrk,uE gp hbit,yF]
  have hv:eV n (eG D) c t = !(p.2.getD (iL n t) false==c.neg):=by unfold eV eG;rw [if_pos k0,hp];rfl
  rw [← hv]
  exact hK H gx
 ·have h2:t.length=2:=hk (hkk.resolve_left k0)
  have v0:t[0]?=some (t.getD 0 0):=by rw [List.getD_eq_getElem?_getD,List.getElem?_eq_getElem (by omega:0<t.length)];rfl
  have v1:t[1]?=some (t.getD 1 0):=by rw [List.getD_eq_getElem?_getD,List.getElem?_eq_getElem (by omega:1<t.length)];rfl
  have i0:cS 1 (.slice T 0 t.length 1) (.int .i64 0)=some (.ptr T 0):=jh (i:=0) (by omega)
  have i1:cS 1 (.slice T 0 t.length 1) (.int .i64 1)=some (.ptr T 1):=jh (i:=1) (by omega)
  simp only [decide_eq_false k0,aG]
  by_cases k1:c.kind=1
  ·simp only [decide_eq_true k1,aJ,i0,i1,jY gT v0,jY gT v1,aU,Nat.reduceAdd,Nat.reduceEqDiff,reduceIte,ak g0,bY,cQ,yF]
   have hv:eV n (eG D) c t = !(decide (t.getD 0 0=t.getD 1 0)==c.neg):=by unfold eV;rw [if_neg k0,if_pos k1];rfl
   rw [← hv]
   exact hK H gx
  ·have k2:c.kind=2:=(hkk.resolve_left k0).resolve_left k1
   simp only [decide_eq_false k1,aG,decide_eq_true k2,aJ,i0,i1,jY gT v0,jY gT v1,aU,Nat.reduceAdd,Nat.reduceEqDiff,reduceIte,ak g0,bY,yF]
   have hv:eV n (eG D) c t = !(decide (t.getD 0 0<t.getD 1 0)==c.neg):=by unfold eV;rw [if_neg k0,if_neg k1];rfl
   rw [← hv]
   exact hK H gx
end
end Go.AM
namespace Go.AM
open Go Go.Proofs
noncomputable section
theorem HZ{x:Sl bG}{s:bG}(hx:x.l.length≤cy)(hs:s ∈ x.l){h:ag}{K:Out→ag→Bool}(hK:K (.ret (.int .i64 (x.l.idxOf s:Int))) h=true):Sem Tryz.prog 157 [aq encS 1 x,.str s] h K:=by
 refine F.gu ?_
 simp only [aU,Nat.reduceAdd,Nat.reduceEqDiff,reduceIte]
 refine aC 0 x.l.length (Nat.zero_le _) (fun i e h'=>h'=h∧e 0=aq encS 1 x∧e 1 = .str s∧e 7 = .int .i64 (x.l.length:Int)∧e 8 = .int .i64 (i:Int)∧i≤x.l.idxOf s) ⟨rfl,rfl,rfl,rfl,rfl,Nat.zero_le _⟩ ?_ ?_
 ·rintro i e h' _ hi ⟨rfl,e0,e1,e7,e8,ht⟩ K' hn hx' hr hp'
  have hv:x.l[i]?=some x.l[i]:=List.getElem?_eq_getElem hi
  have hlt:x.l.idxOf s<x.l.length:=List.idxOf_lt_length_of_mem hs
  rw [F.bq.aO]
  simp only [e0,e1,e7,e8,aU,Nat.reduceAdd,Nat.reduceEqDiff,reduceIte,bg hi,aW x hi,gO hv,m6]
  by_cases hq:s=x.l[i]
  ·simp only [decide_eq_true hq,aJ]
   rw [hr,F.bq.bt]
   have:x.l.idxOf s=i:=by
    refine Nat.le_antisymm ?_ ht
    refine Nat.le_of_not_lt fun h=>?_
    have h2:=List.not_of_lt_findIdx (p:=fun a=>a==s) (xs:=x.l) (i:=i) h
    simp [← hq] at h2
   rw [this] at hK;exact hK
  ·simp only [decide_eq_false hq,aG,aI hi hx,bindO_some]
   refine hn _ _ ⟨rfl,e0,e1,e7,rfl,?_⟩
   refine Nat.lt_of_le_of_ne ht fun h=>?_
   have h3:x.l[x.l.idxOf s]=s:=List.getElem_idxOf hlt
   exact hq (by rw [← h3];congr 1;exact h.symm)
 ·rintro e h' ⟨rfl,e0,e1,e7,e8,ht⟩ K' hx'
  have hlt:x.l.idxOf s<x.l.length:=List.idxOf_lt_length_of_mem hs
  omega
def placesOf(vars xs:List bG):List Nat:=xs.map fun s=>vars.idxOf s
theorem ED{V:Nat}{h:ag}{vars xs:Sl bG}(hV:h.get V=some (.cells [aq encS 1 vars]))(hVn:V<h.next)(hall:∀ s ∈ xs.l,s ∈ vars.l)(hx:xs.l.length≤1000000)(hv:vars.l.length≤cy){K:Out→ag→Bool}
  (hK:∀ a h',Own encI 1 h.next h' a ((placesOf vars.l xs.l).map fun (p:Nat)=>(p:Int))→bJ h h'→K (.ret a) h'=true):Sem Tryz.prog 156 [aq encS 1 xs,.ptr V 0] h K:=by
 have hxb:xs.l.length≤cy:=by unfold cy;omega
 refine F.sX ?_
 simp only [aU,Nat.reduceAdd,Nat.reduceEqDiff,reduceIte]
 refine aC 0 xs.l.length (Nat.zero_le _) (fun i e h'=>∃ a,Own encI 1 h.next h' a ((placesOf vars.l (xs.l.take i)).map fun (p:Nat)=>(p:Int))∧bJ h h'∧e 1 = .ptr V 0∧e 4=a∧e 7=aq encS 1 xs∧e 8 = .int .i64 (xs.l.length:Int)∧e 9 = .int .i64 (i:Int)) ⟨.nils,.nil,bJ.refl _,rfl,rfl,rfl,rfl,rfl⟩ ?_ ?_
 ·rintro i e h' _ hi ⟨a,o,qx,e1,e4,e7,e8,e9⟩ K' hn hx' hr hp
  have hs:xs.l[i]?=some xs.l[i]:=List.getElem?_eq_getElem hi
  generalize xs.l[i]=s at hs
  have qV:h'.get V=some (.cells [aq encS 1 vars]):=by rw [qx.get V hVn];exact hV
  rw [F.dV.aO]
  simp only [e1,e4,e7,e8,e9,aU,Nat.reduceAdd,Nat.reduceEqDiff,reduceIte,bg hi,aW xs hi,gO hs,ak qV]
  refine an (HZ hv (hall s (List.mem_of_getElem? hs)) ?_)
  obtain ⟨a2,h2,p1,p2,p3,p4,p5,p6⟩:=o.push mw Ez qx.next (bytes:=8) (by have:=List.length_take_le i xs.l;simp only [placesOf,List.length_map];unfold cX;omega) (vars.l.idxOf s:Int)
  simp only [aU,Nat.reduceAdd,Nat.reduceEqDiff,reduceIte,e4,JB,p1,e9,aI hi hxb]
  refine hn _ _ ⟨a2,?_,p5 h qx (Nat.le_refl _),e1,rfl,e7,e8,rfl⟩
  have:placesOf vars.l (xs.l.take (i+1))=placesOf vars.l (xs.l.take i)++[vars.l.idxOf s]:=by unfold placesOf;rw [List.take_add_one,hs];simp
  rw [this];simpa using p2
 ·rintro e h' ⟨a,o,qx,e1,e4,e7,e8,e9⟩ K' hx'
  rw [F.dV.aO]
  simp only [e8,e9,aU,Nat.reduceAdd,Nat.reduceEqDiff,reduceIte,aR]
  rw [hx',F.dV.aD]
  rw [List.take_of_length_le (Nat.le_refl _)] at o
  simp only [e4,bH,Nat.reduceEqDiff,reduceIte]
  exact hK a h' o qx
end
end Go.AM
namespace Go.AM
open Go Go.Proofs
noncomputable section
abbrev RW:=Option (Nat×List Int)
def RW.av:RW→AV
 |none=>.nils
 |some p=>.slice p.1 0 p.2.length 1
def RW.l:RW→List Int
 |none=>[]
 |some p=>p.2
def uG(w:RW):List AV:=[w.av]
theorem EE(w:RW):(uG w).length=1:=rfl
theorem JG(w:RW):bN (uG w)=true:=by cases w<;>rfl
theorem QU(w:RW):fc [.nils] [(0,1)] [w.av]=some (uG w):=by cases w<;>rfl
theorem JH{k:Nat}{h:ag}{a:AV}{l:List Int}(o:Own encI 1 k h a l):∃ w:RW,a=w.av∧w.l=l∧∀ p,w=some p→k≤p.1∧p.1<h.next∧h.get p.1=some (.cells (p.2.map iv)):=by
 cases o with
 |nil=>exact ⟨none,rfl,rfl,fun p hp=>by cases hp⟩
 |row b l h1 h2 h3=>exact ⟨some (b,l),rfl,rfl,fun p hp=>by cases hp;exact ⟨h1,h2,by rw [oJ];exact h3⟩⟩
theorem row_one{α:Type}{enc:α→List AV}{sz:Nat}(he:∀ x,(enc x).length=sz){h:ag}{b:Nat}{v:α}(hb:h.get b=some (.cells (enc v))):Row enc sz h (.slice b 0 1 sz) [v]:=by
 refine ⟨rfl,?_⟩
 have hl:(enc v).length=sz:=he v
 simp only [gY,hb,if_true,List.length_singleton,Nat.one_mul,Nat.zero_add,hl,Nat.le_refl,List.drop_zero]
 rw [← hl,List.take_length];simp
structure Dz (k:Nat) (h:ag) (cW lW:AV) (ws:List RW) (ls:List Int) (held:List RW):Prop where
 oc:Own uG 1 k h cW ws
 ol:Own encI 1 k h lW ls
 ok:∀ w ∈ held,∀ p,w=some p→k≤p.1∧p.1<h.next∧h.get p.1=some (.cells (p.2.map iv))∧de cW≠some p.1∧de lW≠some p.1
 sep:∀ b,de cW=some b→de lW≠some b
theorem Dz.ext{k:Nat}{h h':ag}{cW lW:AV}{ws:List RW}{ls:List Int}{held:List RW}(t:Dz k h cW lW ws ls held)(hx:bJ h h'):Dz k h' cW lW ws ls held:=
 ⟨t.oc.ext hx,t.ol.ext hx,fun w hw p hp=>by
  obtain ⟨q1,q2,q3,q4⟩:=t.ok w hw p hp
  exact ⟨q1,Nat.lt_of_lt_of_le q2 hx.next,by rw [hx.get _ q2];exact q3,q4⟩,t.sep⟩
theorem Dz.hold{k:Nat}{h:ag}{cW lW:AV}{ws:List RW}{ls:List Int}{held:List RW}(t:Dz k h cW lW ws ls held){w:RW}{j:Nat}(hj:∀ p,w=some p→j≤p.1∧k≤p.1∧p.1<h.next∧h.get p.1=some (.cells (p.2.map iv)))
  (hc:∀ b,de cW=some b→b<j) (hl:∀ b,de lW=some b→b<j):Dz k h cW lW ws ls (held++[w]):=
 ⟨t.oc,t.ol,fun v hv p hp=>by
  rcases List.mem_append.1 hv with hv|hv
  ·exact t.ok v hv p hp
  ·rw [List.mem_singleton] at hv;subst hv
   obtain ⟨q1,q2,q3,q4⟩:=hj p hp
   exact ⟨q2,q3,q4,fun h=>by have:=hc _ h;omega,fun h=>by have:=hl _ h;omega⟩,t.sep⟩
theorem Dz.low{k:Nat}{h:ag}{cW lW:AV}{ws:List RW}{ls:List Int}{held:List RW}(t:Dz k h cW lW ws ls held){d:Nat}(hd:d<k)(x:jj):Dz k (h.set d x) cW lW ws ls held:=
 ⟨t.oc.nr hd x,t.ol.nr hd x,fun w hw p hp=>by
  obtain ⟨q1,q2,q3,q4⟩:=t.ok w hw p hp
  exact ⟨q1,by rw [ag.next_set];exact q2,by rw [ag.aN,if_neg (by omega)];exact q3,q4⟩,t.sep⟩
theorem Dz.push{k:Nat}{h:ag}{cW lW:AV}{ws:List RW}{ls:List Int}{held:List RW}(t:Dz k h cW lW ws ls held)(hk:k≤h.next)(hw:ws.length≤1000000)(hl:ls.length≤1000000)(w:RW)(x:Int) :
  ∃ c' l' h2 h3,cg 1 24 cW (.slice h.next 0 1 1) ((h.alloc (.cells (uG w))).alloc (.cells (encI x)))=some (c',h2)∧cg 1 8 lW (.slice (h.next+1) 0 1 1) h2=some (l',h3) ∧
   Dz k h3 c' l' (ws++[w]) (ls++[x]) held∧(∀ c,c<k→h2.get c=h.get c∧h3.get c=h.get c)∧h.next≤h3.next:=by
 have g0:((h.alloc (.cells (uG w))).alloc (.cells (encI x))).get h.next=some (.cells (uG w)):=by
  rw [ag.bf,ag.next_alloc,if_neg (by omega)];exact aB _ _
 have g1:((h.alloc (.cells (uG w))).alloc (.cells (encI x))).get (h.next+1)=some (.cells (encI x)):=aB _ _
 have gx:bJ h ((h.alloc (.cells (uG w))).alloc (.cells (encI x))):=(bJ.alloc _ _).trans (bJ.alloc _ _)
 have gn:((h.alloc (.cells (uG w))).alloc (.cells (encI x))).next=h.next+2:=rfl
 generalize ((h.alloc (.cells (uG w))).alloc (.cells (encI x)))=H at g0 g1 gx gn ⊢
 have tH:=t.ext gx
 have cge:∀ b,de cW=some b→k≤b∧b<h.next:=fun b hb=>⟨t.oc.ge hb,t.oc.lt hb⟩
 have lge:∀ b,de lW=some b→k≤b∧b<h.next:=fun b hb=>⟨t.ol.ge hb,t.ol.lt hb⟩
 obtain ⟨c',h2,p1,p2,p3,p4,p5⟩:=tH.oc.append EE JG (row_one EE g0) (by omega) (bytes:=24) (by simp only [List.length_singleton];unfold cX;omega)
 have cnew:=p5 (by simp)
 have e1:h2.get (h.next+1)=some (.cells (encI x)):=by rw [p3 _ (by omega) (fun hb=>by have:=(cge _ hb).2;omega)];exact g1
 have ol2:Own encI 1 k h2 lW ls:=by
  have o:=tH.ol
  cases o with
  |nil=>exact .nil
  |row b l q1 q2 q3=>exact .row b _ q1 (by omega) (by rw [p3 b q2 (fun hb=>t.sep b hb rfl)];exact q3)
 obtain ⟨l',h3,r1,r2,r3,r4,r5⟩:=ol2.append mw Ez (row_one mw e1) (by omega) (bytes:=8) (by simp only [List.length_singleton];unfold cX;omega)
 have lnew:=r5 (by simp)
 have oc3:Own uG 1 k h3 c' (ws++[w]):=by
  generalize hL:ws++[w]=L at p2
  cases p2 with
  |nil=>exact .nil
  |row b l q1 q2 q3=>exact .row b _ q1 (by omega) (by rw [r3 b q2 (fun hb=>by have:=(lge _ hb).2;have:=cnew b rfl;omega)];exact q3)
 refine ⟨c',l',h2,h3,p1,r1,⟨oc3,r2,fun v hv p hp=>?_,fun b hb hb'=>?_⟩,fun c hc=>?_,by omega⟩
 ·obtain ⟨q1,q2,q3,q4,q5⟩:=t.ok v hv p hp
  have a1:h2.get p.1=some (.cells (p.2.map iv)):=by rw [p3 _ (by omega) q4,gx.get _ q2];exact q3
  refine ⟨q1,by omega,by rw [r3 _ (by omega) q5];exact a1,fun h=>by have:=cnew _ h;omega,fun h=>by have:=lnew _ h;omega⟩
 ·have:=p2.lt hb
  have:=lnew b hb'
  omega
 ·have a1:h2.get c=h.get c:=by rw [p3 c (by omega) (fun hb=>by have:=(cge _ hb).1;omega),gx.get c (by omega)]
  exact ⟨a1,by rw [r3 c (by omega) (fun hb=>by have:=(lge _ hb).1;omega)];exact a1⟩
theorem JI:∀ ws:List RW,ws.flatMap uG=ws.map RW.av
 |[]=>rfl
 |w :: ws=>by rw [List.flatMap_cons,List.map_cons,JI ws];rfl
theorem JJ:∀ ws:List RW,(ws.map fun w=>(w.map (·.2):Sl Int)).flatMap eN=ws.map fun w=>aq encI 1 (w.map (·.2))
 |[]=>rfl
 |w :: ws=>by rw [List.map_cons,List.flatMap_cons,List.map_cons,JJ ws];rfl
theorem Dz.sj{k:Nat}{h:ag}{cW lW:AV}{ws:List RW}{ls:List Int}{held:List RW}(t:Dz k h cW lW ws ls held)(hs:∀ w ∈ ws,w ∈ held):∃ x:Sl (Sl Int),x.l.map Sl.l=ws.map RW.l∧Fz true h cW (aq eN 1 x):=by
 have hrow:∀ w ∈ held,Fz true h w.av (aq encI 1 (w.map (·.2))):=fun w hw=>by
  cases w with
  |none=>exact .dS rfl
  |some p=>exact oL (t.ok _ hw p rfl).2.2.1
 obtain ⟨o,_,_,_⟩:=t
 cases o with
 |nil=>exact ⟨none,rfl,.dS rfl⟩
 |row b ws h1 h2 h3=>
  refine ⟨some (ws.map fun w=>(w.map (·.2):Sl Int)),?_,?_⟩
  ·simp only [Sl.l_some,List.map_map]
   refine List.map_congr_left fun w _=>?_
   cases w<;>rfl
  ·have e1:=JI ws
   have e2:=JJ ws
   rw [e1] at h3
   have hf:Fz true h (.slice b 0 ws.length 1) (.islice (ws.map fun w=>aq encI 1 (w.map (·.2))) 0 ws.length 1):=by
    refine .slice b 0 ws.length 1 _ _ h3 (by simp) fun i x y hx hy=>?_
    rw [List.getElem?_map] at hx hy
    obtain ⟨w,hw,rfl⟩:=Option.map_eq_some_iff.1 hx
    rw [hw] at hy;cases hy
    exact hrow w (hs w (List.mem_of_getElem? hw))
   have:aq eN 1 (some (ws.map fun w=>(w.map (·.2):Sl Int))) = .islice (ws.map fun w=>aq encI 1 (w.map (·.2))) 0 ws.length 1:=by
    simp only [aq,e2,List.length_map]
   rw [this];exact hf
end
end Go.AM
namespace Go.AM
open Go Go.Proofs
noncomputable section
def j6(xs:List bG):Bool:=xs.all dX&&decide (xs.length≤12)
theorem dr{x:Sl bG}(hx:x.l.length≤cy){h:ag}{K:Out→ag→Bool}(hK:K (.ret (.bool (j6 x.l))) h=true):Sem Tryz.prog 134 [aq encS 1 x] h K:=by
 refine F.xJ ?_
 refine aC 0 x.l.length (Nat.zero_le _) (fun i e h'=>h'=h∧e 0=aq encS 1 x∧e 3 = .int .i64 (i:Int)∧(x.l.take i).all dX=true) ⟨rfl,rfl,rfl,rfl⟩ ?_ ?_
 ·rintro i e h' _ hi ⟨rfl,e0,e3,ht⟩ K' hn hx' hr hp'
  have hv:x.l[i]?=some x.l[i]:=List.getElem?_eq_getElem hi
  generalize x.l[i]=s at hv
  rw [F.dr.aO]
  simp only [e0,e3,aU,Nat.reduceAdd,Nat.reduceEqDiff,reduceIte,bg hi,aW x hi,gO hv]
  refine an (dK ?_)
  simp only [aU,Nat.reduceAdd,Nat.reduceEqDiff,reduceIte]
  cases hq:dX s with
  |false=>
   simp only [Bool.not_false,aJ]
   rw [hr,F.dr.bt]
   have:j6 x.l=false:=by unfold j6;rw [all_false hv hq,Bool.false_and]
   rw [this] at hK;exact hK
  |true=>
   simp only [Bool.not_true,aG,aI hi hx,bindO_some]
   exact hn _ _ ⟨rfl,e0,rfl,gJ hv ht hq⟩
 ·rintro e h' ⟨rfl,e0,e3,ht⟩ K' hx'
  rw [F.dr.aO]
  simp only [e0,e3,aU,Nat.reduceAdd,Nat.reduceEqDiff,reduceIte,aR]
  rw [hx',F.dr.aD]
  simp only [e0,aU,Nat.reduceAdd,Nat.reduceEqDiff,reduceIte]
  rw [List.take_of_length_le (Nat.le_refl _)] at ht
  have:j6 x.l=decide ((x.l.length:Int)≤12):=by unfold j6;rw [ht,Bool.true_and];by_cases h:x.l.length≤12<;>simp<;>omega
  rw [this] at hK;exact hK
def qD(r:aE):List bG:=r.args.l++r.body.l.flatMap fun c=>c.args.l
theorem sq(o a b:List bG):ey o (a++b)=ey (ey o a) b:=by unfold ey;rw [List.foldl_append]
theorem sr:∀ (cs:List eX) (o:List bG),iW o cs=ey o (cs.flatMap fun c=>c.args.l)
 |[],o=>rfl
 |c :: cs,o=>by
  rw [List.flatMap_cons,sq]
  exact sr cs (ey o c.args.l)
theorem tn(r:aE):varsOf r=ey [] (qD r):=by
 unfold varsOf qD;rw [sq,sr]
theorem EF{r:aE}(hf:r.lB)(i:Nat):(r.args.l++(r.body.l.take i).flatMap fun c=>c.args.l).length≤3000000:=by
 have:∀ (cs:List eX),(∀ c ∈ cs,c.args.l.length≤1500)→(cs.flatMap fun c=>c.args.l).length≤cs.length*1500:=by
  intro cs
  induction cs with
  |nil=>intro _;simp
  |cons c cs ih=>
   intro h
   have h1:=ih fun d hd=>h d (List.mem_cons_of_mem _ hd)
   have h2:=h c List.mem_cons_self
   rw [List.flatMap_cons,List.length_append,List.length_cons];omega
 have h1:=this (r.body.l.take i) fun c hc=>hf.2.2 c (List.mem_of_mem_take hc)
 have h2:=List.length_take_le i r.body.l
 have h4:=List.length_take_le' i r.body.l
 have:=hf.1;have:=hf.2.1
 rw [List.length_append];omega
theorem bE{r:aE}(hf:r.lB){h:ag}{K:Out→ag→Bool}(hK:∀ x:Sl bG,x.l=varsOf r→K (.ret (aq encS 1 x)) h=true) :
  Sem Tryz.prog 44 [.agg [.str r.name,aq encS 1 r.args,aq bY 4 r.body]] h K:=by
 have hbb:r.body.l.length≤cy:=by have:=hf.2.1;unfold cy;omega
 have main:Sem Tryz.prog 44 [.agg [.str r.name,aq encS 1 r.args,aq bY 4 r.body]] ag.empty (fun o h'=>yes (∃ v,∃ x:Sl bG,o = .ret v∧x.l=varsOf r∧Fz true h' v (aq encS 1 x))):=by
  refine F.rP ?_
  have hb:cK (.agg [.str r.name,aq encS 1 r.args,aq bY 4 r.body])=some (aM r):=cU (iz r)
  have hrow:fc [] [] []=some []:=rfl
  simp only [hb,hrow,bindO_some,bT,ag.next_alloc]
  have g0:(ag.alloc (ag.alloc ag.empty (.cells (aM r))) (.cells [])).get 0=some (.cells (aM r)):=by simp [ag.bf,bT]
  have g1:(ag.alloc (ag.alloc ag.empty (.cells (aM r))) (.cells [])).get 1=some (.cells (([]:List bG).flatMap encS)):=by simp [ag.bf,bT]
  have gn:(ag.alloc (ag.alloc ag.empty (.cells (aM r))) (.cells [])).next=2:=rfl
  generalize (ag.alloc (ag.alloc ag.empty (.cells (aM r))) (.cells []))=H at g0 g1 gn ⊢
  have o0:Own encS 1 1 H (.slice (0+1) 0 0 1) []:=.row 1 [] (Nat.le_refl _) (by omega) g1
  obtain ⟨a1,h1,p1,p2,p3,p4,p5⟩:=o0.append gr mD (yH gr r.args H) (by omega) (bytes:=16) (by have:=hf.1;unfold cX;simp only [List.length_nil];omega)
  have g0':h1.get 0=some (.cells (aM r)):=by rw [p3 0 (by omega) (fun hb=>by simp [de] at hb)];exact g0
  simp only [aU,Nat.reduceAdd,Nat.reduceEqDiff,reduceIte,ak g0,aM]
  simp only [p1,aU,Nat.reduceAdd,Nat.reduceEqDiff,reduceIte]
  refine aC 0 r.body.l.length (Nat.zero_le _) (fun i e h'=>∃ a,h'.get 0=some (.cells (aM r))∧2≤h'.next∧Own encS 1 1 h' a (r.args.l++(r.body.l.take i).flatMap fun c=>c.args.l)∧e 1 = .ptr 0 0∧e 3=a∧e 4 = .int .i64 (i:Int))
   ⟨a1,g0',by omega,by simpa using p2,rfl,rfl,rfl⟩ ?_ ?_
  ·rintro i e h' _ hi ⟨a,q0,qn,o,e1,e3,e4⟩ K' hn hx hr hp
   have hv:r.body.l[i]?=some r.body.l[i]:=List.getElem?_eq_getElem hi
   generalize r.body.l[i]=c at hv
   have hc:=hf.2.2 c (List.mem_of_getElem? hv)
   obtain ⟨a2,h2,s1,s2,s3,s4,s5⟩:=o.append gr mD (yH gr c.args h') (by omega) (bytes:=16) (by have:=EF hf i;unfold cX;omega)
   have ld:∀ j,j<4→∀ h,ai none (.iptr (r.body.l.flatMap bY) (i*4+j)) h=(bY c)[j]?:=fun j hj h=>fh gL hv hj
   rw [F.bE.aO]
   simp only [e1,e3,e4,aU,Nat.reduceAdd,Nat.reduceEqDiff,reduceIte,ak q0,aM,bg hi,aW r.body hi]
   simp only [aU,Nat.reduceAdd,Nat.reduceEqDiff,reduceIte,Nat.add_assoc,Nat.reduceAdd,ld 3 (by omega),bY,s1,aI hi hbb]
   refine hn _ _ ⟨a2,?_,by omega,?_,e1,rfl,rfl⟩
   ·rw [s3 0 (by omega) (fun hb=>by have:=o.ge hb;omega)];exact q0
   ·rw [List.take_add_one,hv,List.flatMap_append,← List.append_assoc];simpa using s2
  ·rintro e h' ⟨a,q0,qn,o,e1,e3,e4⟩ K' hx
   rw [List.take_of_length_le (Nat.le_refl _)] at o
   have hal:(qD r).length≤3000000:=by have:=EF hf r.body.l.length;rw [List.take_of_length_le (Nat.le_refl _)] at this;exact this
   have hab:(qD r).length≤cy:=by unfold cy;omega
   have o':Own encS 1 1 h' a (qD r):=o
   rw [F.bE.aO]
   simp only [e1,e4,aU,Nat.reduceAdd,Nat.reduceEqDiff,reduceIte,ak q0,aM,aR]
   rw [hx,F.bE.aD]
   refine aC 0 (qD r).length (Nat.zero_le _) (fun i e h2=>∃ b,bJ h' h2∧Own encS 1 h'.next h2 b (ey [] ((qD r).take i))∧e 3=a∧e 5=b∧e 6 = .int .i64 (i:Int))
    ⟨.nils,bJ.refl _,by simpa [ey] using Own.nil,by simp only [bH,Nat.reduceEqDiff,reduceIte,e3],rfl,rfl⟩ ?_ ?_
   ·rintro i e h2 _ hi ⟨b,x2,ob,e3,e5,e6⟩ K2 hn hx2 hr hp
    have hv:(qD r)[i]?=some (qD r)[i]:=List.getElem?_eq_getElem hi
    generalize (qD r)[i]=s at hv
    have oa:=o'.ext x2
    obtain ⟨q,_,g1,g2⟩:=qv oa hv
    have hlb:(ey [] ((qD r).take i)).length≤3000000:=by
     have h1:=mF ((qD r).take i) []
     have h2:=List.length_take_le' i (qD r)
     simp only [List.length_nil] at h1;omega
    have hcomm:((ey [] ((qD r).take i)).any fun x=>x==s)=(ey [] ((qD r).take i)).any fun x=>s==x:=by
     congr 1;funext x;exact Bool.eq_iff_iff.2 ⟨fun h=>by rw [beq_iff_eq] at h ⊢;exact h.symm,fun h=>by rw [beq_iff_eq] at h ⊢;exact h.symm⟩
    have hstep:=wY (o:=[]) hv
    unfold vR at hstep
    rw [F.bE.dx]
    simp only [e3,e5,e6,oa.len,aU,Nat.reduceAdd,Nat.reduceEqDiff,reduceIte,bg hi,g1,g2]
    refine an (cR ob (by unfold cy;omega) ?_)
    rw [hcomm]
    simp only [aU,Nat.reduceAdd,Nat.reduceEqDiff,reduceIte]
    cases hq:(ey [] ((qD r).take i)).any fun x=>s==x with
    |true=>
     rw [hq,if_pos rfl] at hstep
     simp only [Bool.not_true,aG,aI hi hab,bindO_some]
     exact hn _ _ ⟨b,x2,by rw [hstep];exact ob,e3,e5,rfl⟩
    |false=>
     rw [hq,if_neg (by simp)] at hstep
     obtain ⟨b2,h3,p1,p2,p3,p4,p5,p6⟩:=ob.push gr mD x2.next (bytes:=16) (by unfold cX;omega) s
     simp only [Bool.not_false,aJ,e3,e5,e6,g1,g2,aU,Nat.reduceAdd,Nat.reduceEqDiff,reduceIte,M3,p1,aI hi hab]
     exact hn _ _ ⟨b2,p5 h' x2 (Nat.le_refl _),by rw [hstep];exact p2,e3,rfl,rfl⟩
   ·rintro e h2 ⟨b,x2,ob,e3,e5,e6⟩ K2 hx2
    have oa:=o'.ext x2
    rw [F.bE.dx]
    simp only [e3,e6,oa.len,aU,Nat.reduceAdd,Nat.reduceEqDiff,reduceIte,aR]
    rw [hx2,F.bE.cw]
    rw [List.take_of_length_le (Nat.le_refl _),← tn] at ob
    simp only [bH,Nat.reduceEqDiff,reduceIte,e5]
    obtain ⟨x,hx1,hx2⟩:=ob.FX (fun v y hy=>by
     simp only [encS,List.mem_cons,List.not_mem_nil,or_false] at hy
     subst hy;exact .scalar _ rfl)
    exact cD.2 ⟨b,x,rfl,hx1,hx2⟩
 refine main.frozen (by have:=eM r;simpa [aM,AV.pureL,AV.pure] using this) fun o h' ho=>?_
 obtain ⟨v,x,rfl,hx,hfz⟩:=cD.1 ho
 exact ⟨v,_,rfl,hfz,hK x hx⟩
end
end Go.AM
namespace Go.AM
open Go Go.Proofs
noncomputable section
def He(a b:Int):Int:=if b>a then b else a
theorem EG(a b:Int):rY true (.int .i64 a) [.int .i64 b]=some (.int .i64 (He a b)):=by simp [rY,Fp,He]
def gC(ps:List Nat):Int:=ps.foldl (fun a (p:Nat)=>He a (p:Int)) (-1)
theorem JK{o:List bG}{t s:bG}:s ∈ vR o t↔s ∈ o∨s=t:=by
 unfold vR
 split
 ·rename_i h
  obtain ⟨x,hx,hq⟩:=List.any_eq_true.1 h
  rw [beq_iff_eq] at hq
  exact ⟨.inl,fun h=>h.elim id fun e=>by rw [e,hq];exact hx⟩
 ·simp
theorem Aq{s:bG}:∀ {l o:List bG},s ∈ ey o l↔s ∈ o∨s ∈ l
 |[],o=>by simp [ey]
 |t :: l,o=>by
  show s ∈ ey (vR o t) l↔_
  rw [Aq,JK,List.mem_cons,or_assoc]
theorem EH{r:aE}{s:bG}:s ∈ varsOf r↔s ∈ qD r:=by rw [tn,Aq];simp
theorem kI{r:aE}:∀ s ∈ r.args.l,s ∈ varsOf r:=fun s hs=>EH.2 (List.mem_append_left _ hs)
theorem nP{r:aE}{c:eX}(hc:c ∈ r.body.l):∀ s ∈ c.args.l,s ∈ varsOf r:=fun s hs=>EH.2 (List.mem_append_right _ (List.mem_flatMap.2 ⟨c,hc,hs⟩))
def iH(vars xs:List bG):List Int:=(placesOf vars xs).map fun (p:Nat)=>(p:Int)
theorem JL(i n:Int)(nm:bG)(xs:Sl bG)(ys:Sl eX)(w:RW):gw [.int .i64 0,.str [],.nils,.nils,.int .i64 0,.nils,.nils,.nils] [(0,1),(1,3),(4,1),(5,1)] [.int .i64 i,.agg [.str nm,aq encS 1 xs,aq bY 4 ys],.int .i64 n,w.av]=some (.agg [.int .i64 i,.str nm,aq encS 1 xs,aq bY 4 ys,.int .i64 n,w.av,.nils,.nils]):=by
 cases xs<;>cases ys<;>cases w<;>rfl
theorem JM(s:St):eO Tryz.prog s Tryz.f109.results.toList=(match ai (some 8) (s.env 4) s.h,(some []:Option (List AV)) with|some v,some vs=>some (v :: vs)|_,_=>none):=by kernel_rfl
theorem Hf(a b c d e f g i:AV):gW (some 8) [a,b,c,d,e,f,g,i] 0=some (.agg [a,b,c,d,e,f,g,i]):=rfl
def bU(i:Int)(r:aE)(n:Int)(hd c l:AV):List AV:=[.int .i64 i,.str r.name,aq encS 1 r.args,aq bY 4 r.body,.int .i64 n,hd,c,l]
theorem EI(i:Int)(r:aE)(n:Int)(w:RW){c l:AV}(hc:bN [c]=true)(hl:bN [l]=true):bN (bU i r n w.av c l)=true:=by
 have hw:w.av.one=true:=by cases w<;>rfl
 unfold bU
 simp only [bN,Bool.and_true] at hc hl ⊢
 simp only [ja,hw,hc,hl,Bool.and_true];rfl
theorem JN{P:Nat}{h:ag}{cs vs:List AV}(hP:h.get P=some (.cells cs))(hc:cs.length=8)(hv:vs.length=8)(h1:bN vs=true):bp 8 (.ptr P 0) (.agg vs) h=some (h.set P (.cells vs)):=by
 rw [cT hP (by exact hv) (by exact h1) (by omega)]
 congr 1
 match cs,hc,vs,hv with
 |[a,b,c,d,e,f,g,i],_,[a',b',c',d',e',f',g',i'],_=>rfl
set_option maxHeartbeats 2000000 in
theorem cq{i0:Int}{r:aE}(hf:r.lB){h:ag}{K:Out→ag→Bool}
  (hK:∀ (hd:Sl Int) (cs:Sl (Sl Int)) (ls:Sl Int),hd.l=iH (varsOf r) r.args.l→cs.l.map Sl.l=r.body.l.map (fun c=>iH (varsOf r) c.args.l)→ls.l=r.body.l.map (fun c=>gC (placesOf (varsOf r) c.args.l)) →
   K (.ret (.agg (bU i0 r (varsOf r).length (aq encI 1 hd) (aq eN 1 cs) (aq encI 1 ls)))) h=true) :
  Sem Tryz.prog 109 [.int .i64 i0,.agg [.str r.name,aq encS 1 r.args,aq bY 4 r.body]] h K:=by
 have hbb:r.body.l.length≤cy:=by have:=hf.2.1;unfold cy;omega
 have hvl:(varsOf r).length≤3000000:=by have:=Ew hf r.body.l.length;rw [List.take_of_length_le (Nat.le_refl _)] at this;exact this
 have gen:∀ R:Out→ag→Bool,(∀ (h':ag) (hdW:RW) (cW lW:AV) (cs:Sl (Sl Int)) (ls:Sl Int),Fz true h' hdW.av (aq encI 1 (hdW.map (·.2)))→hdW.l=iH (varsOf r) r.args.l→Fz true h' cW (aq eN 1 cs)→Fz true h' lW (aq encI 1 ls) →
   cs.l.map Sl.l=r.body.l.map (fun c=>iH (varsOf r) c.args.l)→ls.l=r.body.l.map (fun c=>gC (placesOf (varsOf r) c.args.l))→R (.ret (.agg (bU i0 r (varsOf r).length hdW.av cW lW))) h'=true) →
   Sem Tryz.prog 109 [.int .i64 i0,.agg [.str r.name,aq encS 1 r.args,aq bY 4 r.body]] ag.empty R:=by
  intro R fin
  refine F.vw ?_
  have hb:cK (.agg [.str r.name,aq encS 1 r.args,aq bY 4 r.body])=some (aM r):=cU (iz r)
  simp only [hb,bindO_some,bT,ag.next_alloc]
  have g0:(ag.alloc (ag.alloc ag.empty (.cells (aM r))) (.cells [.int .i64 0,.str [],.nils,.nils,.int .i64 0,.nils,.nils,.nils])).get 0=some (.cells (aM r)):=by simp [ag.bf,bT]
  have g1:(ag.alloc (ag.alloc ag.empty (.cells (aM r))) (.cells [.int .i64 0,.str [],.nils,.nils,.int .i64 0,.nils,.nils,.nils])).get 1=some (.cells [.int .i64 0,.str [],.nils,.nils,.int .i64 0,.nils,.nils,.nils]):=by simp [ag.bf,bT]
  have gn:(ag.alloc (ag.alloc ag.empty (.cells (aM r))) (.cells [.int .i64 0,.str [],.nils,.nils,.int .i64 0,.nils,.nils,.nils])).next=2:=rfl
  generalize (ag.alloc (ag.alloc ag.empty (.cells (aM r))) (.cells [.int .i64 0,.str [],.nils,.nils,.int .i64 0,.nils,.nils,.nils]))=H at g0 g1 gn ⊢
  simp only [ak g0,aM,lX,bindO_some]
  refine an (cG hf fun x hx1=>?_)
  have hxb:x.l.length≤cy:=by rw [hx1];unfold cy;omega
  obtain ⟨H3,hs3,k2,ko,kn⟩:=kG (h:=H) (z:=.nils) (v:=aq encS 1 x) (by cases x<;>rfl) (by simp only [bN,ja];rfl)
  have q0:H3.get 0=some (.cells (aM r)):=by rw [ko 0 (by omega)];exact g0
  have q1:H3.get 1=some (.cells [.int .i64 0,.str [],.nils,.nils,.int .i64 0,.nils,.nils,.nils]):=by rw [ko 1 (by omega)];exact g1
  rw [gn] at hs3 k2
  simp only [aU,Nat.reduceAdd,Nat.reduceEqDiff,reduceIte,gn,hs3]
  simp only [aU,Nat.reduceAdd,Nat.reduceEqDiff,reduceIte,ak q0,ak k2,aM,lX,show H3.next=3 by omega]
  have gx:=bJ.alloc H3 (.cells [.int .i64 0,.str [],.nils,.nils,.int .i64 0,.nils,.nils,.nils])
  have g3:(H3.alloc (.cells [.int .i64 0,.str [],.nils,.nils,.int .i64 0,.nils,.nils,.nils])).get 3=some (.cells [.int .i64 0,.str [],.nils,.nils,.int .i64 0,.nils,.nils,.nils]):=by
   have:=aB H3 (.cells [.int .i64 0,.str [],.nils,.nils,.int .i64 0,.nils,.nils,.nils]);rw [show H3.next=3 by omega] at this;exact this
  have gn3:(H3.alloc (.cells [.int .i64 0,.str [],.nils,.nils,.int .i64 0,.nils,.nils,.nils])).next=4:=by rw [ag.next_alloc];omega
  generalize (H3.alloc (.cells [.int .i64 0,.str [],.nils,.nils,.int .i64 0,.nils,.nils,.nils]))=H4 at gx g3 gn3 ⊢
  have p0:H4.get 0=some (.cells (aM r)):=by rw [gx.get 0 (by omega)];exact q0
  have p1:H4.get 1=some (.cells [.int .i64 0,.str [],.nils,.nils,.int .i64 0,.nils,.nils,.nils]):=by rw [gx.get 1 (by omega)];exact q1
  have p2:H4.get 2=some (.cells [aq encS 1 x]):=by rw [gx.get 2 (by omega)];exact k2
  refine an (ED p2 (by omega) (fun s hs=>by rw [hx1];exact kI s hs) (by have:=hf.1;omega) hxb fun a h5 oa x5=>?_)
  rw [gn3] at oa
  obtain ⟨hdW,rfl,hdl,hdk⟩:=JH oa
  have r0:h5.get 0=some (.cells (aM r)):=by rw [x5.get 0 (by omega)];exact p0
  have r1:h5.get 1=some (.cells [.int .i64 0,.str [],.nils,.nils,.int .i64 0,.nils,.nils,.nils]):=by rw [x5.get 1 (by omega)];exact p1
  have r2:h5.get 2=some (.cells [aq encS 1 x]):=by rw [x5.get 2 (by omega)];exact p2
  have r3:h5.get 3=some (.cells [.int .i64 0,.str [],.nils,.nils,.int .i64 0,.nils,.nils,.nils]):=by rw [x5.get 3 (by omega)];exact g3
  have rn:=x5.next
  have hst:=JN (vs:=bU i0 r (varsOf r).length hdW.av .nils .nils) r3 rfl rfl (EI _ _ _ _ rfl rfl)
  have hag:=JL i0 (varsOf r).length r.name r.args r.body hdW
  rw [← hx1] at hst hag
  simp only [aU,Nat.reduceAdd,Nat.reduceEqDiff,reduceIte,ak r0,ak r2,aM,lX,AV.beq_refl,Bool.and_self,Bool.and_true,if_true,hag]
  simp only [bU] at hst
  simp only [hst,aU,Nat.reduceAdd,Nat.reduceEqDiff,reduceIte]
  have t0:Dz 4 (h5.set 3 (.cells (bU i0 r x.l.length hdW.av .nils .nils))) .nils .nils [] [] [hdW]:=
   (Dz.low ⟨.nil,.nil,fun w hw p hp=>by
    rw [List.mem_singleton] at hw;subst hw
    obtain ⟨a1,a2,a3⟩:=hdk p hp
    exact ⟨a1,a2,a3,by simp [de],by simp [de]⟩,fun b hb=>by simp [de] at hb⟩ (by omega) _)
  have s0:(h5.set 3 (.cells (bU i0 r x.l.length hdW.av .nils .nils))).get 0=some (.cells (aM r)):=by rw [ag.aN,if_neg (by omega)];exact r0
  have s1:(h5.set 3 (.cells (bU i0 r x.l.length hdW.av .nils .nils))).get 1=some (.cells [.int .i64 0,.str [],.nils,.nils,.int .i64 0,.nils,.nils,.nils]):=by rw [ag.aN,if_neg (by omega)];exact r1
  have s2:(h5.set 3 (.cells (bU i0 r x.l.length hdW.av .nils .nils))).get 2=some (.cells [aq encS 1 x]):=by rw [ag.aN,if_neg (by omega)];exact r2
  have s3:(h5.set 3 (.cells (bU i0 r x.l.length hdW.av .nils .nils))).get 3=some (.cells (bU i0 r x.l.length hdW.av .nils .nils)):=by rw [ag.aN,if_pos rfl]
  have sn:(h5.set 3 (.cells (bU i0 r x.l.length hdW.av .nils .nils))).next=h5.next:=ag.next_set _ _ _
  simp only [bU] at t0 s0 s1 s2 s3 sn
  generalize (h5.set 3 (.cells [.int .i64 i0,.str r.name,aq encS 1 r.args,aq bY 4 r.body,.int .i64 (x.l.length:Int),hdW.av,.nils,.nils]))=H6 at t0 s0 s1 s2 s3 sn ⊢
  simp only [ak s0,aM,aU,Nat.reduceAdd,Nat.reduceEqDiff,reduceIte]
  refine aC 0 r.body.l.length (Nat.zero_le _) (fun i e h'=>∃ cW lW ws ls,Dz 4 h' cW lW ws ls (hdW :: ws)∧ws.map RW.l=(r.body.l.take i).map (fun c=>iH (varsOf r) c.args.l)∧ls=(r.body.l.take i).map (fun c=>gC (placesOf (varsOf r) c.args.l)) ∧
   h'.get 1=some (.cells [.int .i64 0,.str [],.nils,.nils,.int .i64 0,.nils,.nils,.nils])∧h'.get 2=some (.cells [aq encS 1 x])∧h'.get 3=some (.cells [.int .i64 i0,.str r.name,aq encS 1 r.args,aq bY 4 r.body,.int .i64 (x.l.length:Int),hdW.av,cW,lW])∧4≤h'.next ∧
   e 4 = .ptr 1 0∧e 6 = .func 156 [] [.ptr 2 0]∧e 7 = .ptr 3 0∧e 28=aq bY 4 r.body∧e 29 = .int .i64 (r.body.l.length:Int)∧e 30 = .int .i64 (i:Int))
   ⟨.nils,.nils,[],[],t0,rfl,rfl,s1,s2,s3,by omega,rfl,rfl,rfl,rfl,rfl,rfl⟩ ?_ ?_
  ·rintro i e h' _ hi ⟨cW,lW,ws,ls,tw,hws,hls,u1,u2,u3,un,e4,e6,e7,e28,e29,e30⟩ K' hn hx hr hp
   have hv:r.body.l[i]?=some r.body.l[i]:=List.getElem?_eq_getElem hi
   generalize r.body.l[i]=c at hv
   have hcm:=List.mem_of_getElem? hv
   have hc15:=hf.2.2 c hcm
   obtain ⟨H2,hs2,c1,co,cn⟩:=cP (h:=h') (zs:=[.int .i64 0,.bool false,.str [],.nils]) (cs:=bY c) (n:=4) rfl rfl (gN c)
   have x2:bJ h' H2:=⟨by omega,fun b hb=>co b (by omega)⟩
   rw [F.cq.aO]
   simp only [e6,e28,e29,e30,aU,Nat.reduceAdd,Nat.reduceEqDiff,reduceIte,bg hi,aW r.body hi,dN gL hv,hs2]
   simp only [aU,Nat.reduceAdd,Nat.reduceEqDiff,reduceIte,ak c1,bY,callV_func,List.nil_append,List.cons_append]
   refine an (ED (xs:=c.args) (by rw [x2.get 2 (by omega)];exact u2) (by omega) (fun s hs=>by rw [hx1];exact nP hcm s hs) (by omega) hxb fun a h3 oa x3=>?_)
   rw [hx1] at oa
   obtain ⟨w,rfl,hwl,hwk⟩:=JH oa
   have x23:=x2.trans x3
   have tw3:=tw.ext x23
   have v1:h3.get 1=some (.cells [.int .i64 0,.str [],.nils,.nils,.int .i64 0,.nils,.nils,.nils]):=by rw [x23.get 1 (by omega)];exact u1
   have v2:h3.get 2=some (.cells [aq encS 1 x]):=by rw [x23.get 2 (by omega)];exact u2
   have v3:h3.get 3=some (.cells [.int .i64 i0,.str r.name,aq encS 1 r.args,aq bY 4 r.body,.int .i64 (x.l.length:Int),hdW.av,cW,lW]):=by rw [x23.get 3 (by omega)];exact u3
   have vn:=x23.next
   have twh:Dz 4 h3 cW lW ws ls (hdW :: ws++[w]):=tw3.hold (j:=H2.next) (fun p hp=>by
    obtain ⟨a1,a2,a3⟩:=hwk p hp
    exact ⟨a1,by omega,a2,a3⟩) (fun b hb=>by have:=tw.oc.lt hb;omega) (fun b hb=>by have:=tw.ol.lt hb;omega)
   have hpl:(placesOf (varsOf r) c.args.l).length≤cy:=by unfold placesOf cy;rw [List.length_map];omega
   have hlen:∀ h,bz .slice w.av h=some (.int .i64 ((placesOf (varsOf r) c.args.l).length:Int)):=fun h=>by rw [oa.len];simp
   simp only [aU,Nat.reduceAdd,Nat.reduceEqDiff,reduceIte,hlen]
   refine aC 0 (placesOf (varsOf r) c.args.l).length (Nat.zero_le _) (fun j e h2=>h2=h3∧e 4 = .ptr 1 0∧e 6 = .func 156 [] [.ptr 2 0]∧e 7 = .ptr 3 0∧e 28=aq bY 4 r.body∧e 29 = .int .i64 (r.body.l.length:Int)∧e 30 = .int .i64 (i:Int) ∧
    e 10=w.av∧e 11 = .int .i64 (gC ((placesOf (varsOf r) c.args.l).take j))∧e 39=w.av∧e 40 = .int .i64 ((placesOf (varsOf r) c.args.l).length:Int)∧e 41 = .int .i64 (j:Int)) ⟨rfl,e4,e6,e7,e28,e29,e30,rfl,rfl,rfl,rfl,rfl⟩ ?_ ?_
   ·rintro j e h2 _ hj ⟨rfl,e4,e6,e7,e28,e29,e30,e10,e11,e39,e40,e41⟩ K2 hn2 hx2 hr2 hp2
    have hpj:(placesOf (varsOf r) c.args.l)[j]?=some (placesOf (varsOf r) c.args.l)[j]:=List.getElem?_eq_getElem hj
    generalize (placesOf (varsOf r) c.args.l)[j]=p at hpj
    have hpi:((placesOf (varsOf r) c.args.l).map fun (p:Nat)=>(p:Int))[j]?=some (p:Int):=by rw [List.getElem?_map,hpj];rfl
    obtain ⟨b,_,_,i1,_,i3⟩:=oa.get mw hpi
    have i3':ai none (.ptr b (j*1)) h2=some (.int .i64 (p:Int)):=i3 0 (by omega)
    rw [F.cq.dx]
    simp only [e11,e39,e40,e41,aU,Nat.reduceAdd,Nat.reduceEqDiff,reduceIte,bg hj,i1,i3',EG,aI hj hpl]
    refine hn2 _ _ ⟨rfl,e4,e6,e7,e28,e29,e30,e10,?_,e39,e40,rfl⟩
    have:gC ((placesOf (varsOf r) c.args.l).take (j+1))=He (gC ((placesOf (varsOf r) c.args.l).take j)) (p:Int):=by unfold gC;rw [List.take_add_one,hpj];simp
    rw [this];rfl
   ·rintro e h2 ⟨rfl,e4,e6,e7,e28,e29,e30,e10,e11,e39,e40,e41⟩ K2 hx2
    rw [List.take_of_length_le (Nat.le_refl _)] at e11
    have hwsl:ws.length≤1500:=by have h1:=congrArg List.length hws;simp only [List.length_map] at h1;have h2:=List.length_take_le' i r.body.l;have:=hf.2.1;omega
    have hlsl:ls.length≤1500:=by rw [hls,List.length_map];have h2:=List.length_take_le' i r.body.l;have:=hf.2.1;omega
    obtain ⟨c',l',m2,m3,t1,t2,t3,t4,t5⟩:=twh.push (by omega) (by omega) (by omega) w (gC (placesOf (varsOf r) c.args.l))
    have y3:m2.get 3=some (.cells [.int .i64 i0,.str r.name,aq encS 1 r.args,aq bY 4 r.body,.int .i64 (x.l.length:Int),hdW.av,cW,lW]):=by rw [(t4 3 (by omega)).1];exact v3
    have z3:m3.get 3=some (.cells [.int .i64 i0,.str r.name,aq encS 1 r.args,aq bY 4 r.body,.int .i64 (x.l.length:Int),hdW.av,cW,lW]):=by rw [(t4 3 (by omega)).2];exact v3
    obtain ⟨w1,w2⟩:=qz t3.oc
    obtain ⟨w3,w4⟩:=qz t3.ol
    have st1:bp 1 (.ptr 3 6) c' m3=some (m3.set 3 (.cells [.int .i64 i0,.str r.name,aq encS 1 r.args,aq bY 4 r.body,.int .i64 (x.l.length:Int),hdW.av,c',lW])):=by
     rw [cT (n:=1) z3 (by rw [w1];rfl) (by rw [w1];exact w2) (by simp),w1];rfl
    have z4:(m3.set 3 (.cells [.int .i64 i0,.str r.name,aq encS 1 r.args,aq bY 4 r.body,.int .i64 (x.l.length:Int),hdW.av,c',lW])).get 3=some (.cells [.int .i64 i0,.str r.name,aq encS 1 r.args,aq bY 4 r.body,.int .i64 (x.l.length:Int),hdW.av,c',lW]):=by rw [ag.aN,if_pos rfl]
    have st2:bp 1 (.ptr 3 7) l' (m3.set 3 (.cells [.int .i64 i0,.str r.name,aq encS 1 r.args,aq bY 4 r.body,.int .i64 (x.l.length:Int),hdW.av,c',lW]))=some ((m3.set 3 (.cells [.int .i64 i0,.str r.name,aq encS 1 r.args,aq bY 4 r.body,.int .i64 (x.l.length:Int),hdW.av,c',lW])).set 3 (.cells [.int .i64 i0,.str r.name,aq encS 1 r.args,aq bY 4 r.body,.int .i64 (x.l.length:Int),hdW.av,c',l'])):=by
     rw [cT (n:=1) z4 (by rw [w3];rfl) (by rw [w3];exact w4) (by simp),w3];rfl
    rw [F.cq.dx]
    simp only [e40,e41,aU,Nat.reduceAdd,Nat.reduceEqDiff,reduceIte,aR]
    rw [hx2,F.cq.cw]
    simp only [e7,e10,e11,e30,aU,Nat.reduceAdd,Nat.reduceEqDiff,reduceIte,ak v3,QU,JB,ag.next_alloc]
    rw [ak (r:=none) (o:=7) (h:=(ag.alloc h2 (.cells (uG w)))) (cs:=[.int .i64 i0,.str r.name,aq encS 1 r.args,aq bY 4 r.body,.int .i64 (x.l.length:Int),hdW.av,cW,lW]) (by rw [ag.bf,if_neg (by omega)];exact v3)]
    simp only [aU,Nat.reduceAdd,Nat.reduceEqDiff,reduceIte,JB,ag.next_alloc,t1,ak y3,AV.beq_refl,Bool.and_self,if_true,t2,st1,st2,aI hi hbb]
    refine hn _ _ ⟨c',l',ws++[w],ls++[gC (placesOf (varsOf r) c.args.l)],(t3.low (by omega) _).low (by omega) _,?_,?_,?_,?_,by rw [ag.aN,if_pos rfl],by rw [ag.next_set,ag.next_set];omega,e4,e6,e7,e28,e29,rfl⟩
    ·rw [List.map_append,hws,List.take_add_one,hv,List.map_append]
     simp only [List.map_cons,List.map_nil,Option.toList_some]
     rw [hwl];rfl
    ·rw [hls,List.take_add_one,hv,List.map_append];rfl
    ·rw [ag.aN,if_neg (by omega),ag.aN,if_neg (by omega),(t4 1 (by omega)).2];exact v1
    ·rw [ag.aN,if_neg (by omega),ag.aN,if_neg (by omega),(t4 2 (by omega)).2];exact v2
  ·rintro e h' ⟨cW,lW,ws,ls,tw,hws,hls,u1,u2,u3,un,e4,e6,e7,e28,e29,e30⟩ K' hx
   rw [List.take_of_length_le (Nat.le_refl _)] at hws hls
   obtain ⟨_,w2⟩:=qz tw.oc
   obtain ⟨_,w4⟩:=qz tw.ol
   have hst2:=JN (vs:=bU i0 r x.l.length hdW.av cW lW) u1 rfl rfl (EI _ _ _ _ w2 w4)
   simp only [bU] at hst2
   rw [F.cq.aO]
   simp only [e29,e30,aU,Nat.reduceAdd,Nat.reduceEqDiff,reduceIte,aR]
   rw [hx,F.cq.aD]
   simp only [e4,e7,aU,Nat.reduceAdd,Nat.reduceEqDiff,reduceIte,ak u3,Hf,hst2,JM]
   have tf:=tw.low (by omega:1<4) (.cells [.int .i64 i0,.str r.name,aq encS 1 r.args,aq bY 4 r.body,.int .i64 (x.l.length:Int),hdW.av,cW,lW])
   have gf:(h'.set 1 (.cells [.int .i64 i0,.str r.name,aq encS 1 r.args,aq bY 4 r.body,.int .i64 (x.l.length:Int),hdW.av,cW,lW])).get 1=some (.cells [.int .i64 i0,.str r.name,aq encS 1 r.args,aq bY 4 r.body,.int .i64 (x.l.length:Int),hdW.av,cW,lW]):=by rw [ag.aN,if_pos rfl]
   simp only [bH,Nat.reduceEqDiff,reduceIte,e4,ak gf,Hf,bindO_some,oneOf]
   obtain ⟨cs,cs1,cs2⟩:=tf.sj (fun w hw=>List.mem_cons_of_mem _ hw)
   obtain ⟨lx,lx1,lx2⟩:=tf.ol.FX (fun v y hy=>by
    simp only [encI,List.mem_cons,List.not_mem_nil,or_false] at hy
    subst hy;exact .scalar _ rfl)
   have hfz:Fz true (h'.set 1 (.cells [.int .i64 i0,.str r.name,aq encS 1 r.args,aq bY 4 r.body,.int .i64 (x.l.length:Int),hdW.av,cW,lW])) hdW.av (aq encI 1 (hdW.map (·.2))):=by
    cases hdW with
    |none=>exact .dS rfl
    |some p=>exact oL (tf.ok _ List.mem_cons_self p rfl).2.2.1
   have:=fin _ hdW cW lW cs lx hfz (by rw [← hx1];exact hdl) cs2 lx2 (by rw [cs1,hws]) (by rw [lx1,hls])
   rw [← hx1] at this
   exact this
 have main:=gen (fun o h'=>yes (∃ (hdW:RW) (cW lW:AV) (cs:Sl (Sl Int)) (ls:Sl Int),o = .ret (.agg (bU i0 r (varsOf r).length hdW.av cW lW))∧Fz true h' hdW.av (aq encI 1 (hdW.map (·.2)))∧hdW.l=iH (varsOf r) r.args.l∧Fz true h' cW (aq eN 1 cs)∧Fz true h' lW (aq encI 1 ls) ∧
   cs.l.map Sl.l=r.body.l.map (fun c=>iH (varsOf r) c.args.l)∧ls.l=r.body.l.map (fun c=>gC (placesOf (varsOf r) c.args.l)))) (fun h' hdW cW lW cs ls f1 f2 f3 f4 f5 f6=>cD.2 ⟨hdW,cW,lW,cs,ls,rfl,f1,f2,f3,f4,f5,f6⟩)
 refine main.frozen (by have:=eM r;simpa [aM,AV.pureL,AV.pure] using this) fun o h' ho=>?_
 obtain ⟨hdW,cW,lW,cs,ls,rfl,f1,f2,f3,f4,f5,f6⟩:=cD.1 ho
 have fl:jB true h' (bU i0 r (varsOf r).length hdW.av cW lW) (bU i0 r (varsOf r).length (aq encI 1 (hdW.map (·.2))) (aq eN 1 cs) (aq encI 1 ls)):=
  .cons (.scalar _ rfl) (.cons (.scalar _ rfl) (.cons (.dS (b8 gj _)) (.cons (.dS (b8 Ai _)) (.cons (.scalar _ rfl) (.cons f1 (.cons f3 (.cons f4 .nil)))))))
 exact ⟨_,_,rfl,.agg _ _ fl.len fl.rel,hK (hdW.map (·.2)) cs ls (by rw [← f2];cases hdW<;>rfl) f5 f6⟩
end
end Go.AM
namespace Go.AM
open Go Go.Proofs
noncomputable section
theorem jH(vs:List Int)(ps:List Nat):(bM vs ps).length=ps.length:=by simp [bM]
theorem kJ{n:Nat}{vs:List Int}(hb:ir n vs=true){ps:List Nat}(hps:∀ p ∈ ps,p<vs.length):ir n (bM vs ps)=true:=by
 unfold ir at hb ⊢
 rw [List.all_eq_true] at hb ⊢
 intro v hv
 unfold bM at hv
 obtain ⟨p,hp,rfl⟩:=List.mem_map.1 hv
 have hpl:=hps p hp
 refine hb _ ?_
 rw [List.getD_eq_getElem?_getD,List.getElem?_eq_getElem hpl]
 exact List.getElem_mem hpl
theorem jO{vars xs:List bG}(h:∀ s ∈ xs,s ∈ vars):∀ p ∈ placesOf vars xs,p<vars.length:=fun p hp=>by
 unfold placesOf at hp
 obtain ⟨s,hs,rfl⟩:=List.mem_map.1 hp
 exact List.idxOf_lt_length_of_mem (h s hs)
structure Cd (n:Nat) (D:bG→Option (Nat×List Bool)) (r:aE):Prop where
 rel:∀ c ∈ r.body.l,c.kind=0→n ^ c.args.l.length≤4096∧∃ p,D c.name=some p∧p.2.length=n ^ c.args.l.length
 two:∀ c ∈ r.body.l,c.kind=1∨c.kind=2→c.args.l.length=2
 kinds:∀ c ∈ r.body.l,c.kind=0∨c.kind=1∨c.kind=2
 arity:∀ c ∈ r.body.l,c.args.l.length≤12
def bL(r:aE)(c:eX):List Nat:=placesOf (varsOf r) c.args.l
def yg(n:Nat)(look:bG→Nat→Bool)(r:aE)(vs:List Int)(upto:Int):Bool:=r.body.l.all fun c=>!decide (gC (bL r c)=upto)||eV n look c (bM vs (bL r c))
set_option maxHeartbeats 1000000 in
theorem EJ{S B n lo N0 N1 N4 V:Nat}{D:bG→Option (Nat×List Bool)}{h:ag}{r:aE}{i0 nv:Int}{hd:Sl Int}{cs:Sl (Sl Int)}{ls:Sl Int}{vs:List Int}(hf:r.lB)(hcs:cs.l.map Sl.l=r.body.l.map (fun c=>iH (varsOf r) c.args.l))(hls:ls.l=r.body.l.map (fun c=>gC (placesOf (varsOf r) c.args.l)))
  (hS:h.get S=some (.cells [.int .i64 (n:Int),.map B])) (hD:ec D h B lo) (hSn:S<h.next) (h0:h.get N0=some (.cells [.ptr S 0])) (h0n:N0<h.next) (h1:h.get N1=some (.cells (bU i0 r nv (aq encI 1 hd) (aq eN 1 cs) (aq encI 1 ls)))) (h1n:N1<h.next)
  (h4:h.get N4=some (.cells [.slice V 0 vs.length 1])) (h4n:N4<h.next) (hV:h.get V=some (.cells (vs.map iv))) (hVn:V<h.next) (hvl:vs.length=(varsOf r).length) (hvs:ir n vs=true) (n1:1≤n) (hk:Cd n D r) {upto:Int} {K:Out→ag→Bool}
  (hK:∀ h',bJ h h'→K (.ret (.bool (yg n (eG D) r vs upto))) h'=true):Sem Tryz.prog 166 [.int .i64 upto,.ptr N1 0,.ptr N0 0,.ptr N4 0] h K:=by
 have hbb:r.body.l.length≤cy:=by have:=hf.2.1;unfold cy;omega
 have hcl:cs.l.length=r.body.l.length:=by have:=congrArg List.length hcs;simpa using this
 have hll:ls.l.length=r.body.l.length:=by rw [hls];simp
 refine F.oG ?_
 simp only [bU] at h1
 simp only [aU,Nat.reduceAdd,Nat.reduceEqDiff,reduceIte,ak h1]
 refine aC 0 r.body.l.length (Nat.zero_le _) (fun i e h'=>bJ h h'∧e 0 = .int .i64 upto∧e 1 = .ptr N1 0∧e 2 = .ptr N0 0∧e 3 = .ptr N4 0∧e 10=aq bY 4 r.body∧e 11 = .int .i64 (r.body.l.length:Int)∧e 12 = .int .i64 (i:Int) ∧
  (r.body.l.take i).all (fun c=>!decide (gC (bL r c)=upto)||eV n (eG D) c (bM vs (bL r c)))=true) ⟨bJ.refl _,rfl,rfl,rfl,rfl,rfl,rfl,rfl,rfl⟩ ?_ ?_
 ·rintro i e h' _ hi ⟨x1,e0,e1,e2,e3,e10,e11,e12,ht⟩ K' hn hx hr hp
  have hv:r.body.l[i]?=some r.body.l[i]:=List.getElem?_eq_getElem hi
  generalize r.body.l[i]=c at hv
  have hcm:=List.mem_of_getElem? hv
  obtain ⟨H2,hs2,c1,co,cn⟩:=cP (h:=h') (zs:=[.int .i64 0,.bool false,.str [],.nils]) (cs:=bY c) (n:=4) rfl rfl (gN c)
  have x2:bJ h H2:=x1.trans ⟨by omega,fun b hb=>co b (by omega)⟩
  have q1:H2.get N1=some (.cells [.int .i64 i0,.str r.name,aq encS 1 r.args,aq bY 4 r.body,.int .i64 nv,aq encI 1 hd,aq eN 1 cs,aq encI 1 ls]):=by rw [x2.get _ h1n];exact h1
  have q0:H2.get N0=some (.cells [.ptr S 0]):=by rw [x2.get _ h0n];exact h0
  have q4:H2.get N4=some (.cells [.slice V 0 vs.length 1]):=by rw [x2.get _ h4n];exact h4
  have qV:H2.get V=some (.cells (vs.map iv)):=by rw [x2.get _ hVn];exact hV
  have hlast:ls.l[i]?=some (gC (bL r c)):=by rw [hls,List.getElem?_map,hv];rfl
  have n1x:=x1.next
  rw [F.cr.aO]
  simp only [e0,e1,e2,e3,e10,e11,e12,aU,Nat.reduceAdd,Nat.reduceEqDiff,reduceIte,bg hi,aW r.body hi,dN gL hv,hs2]
  simp only [aU,Nat.reduceAdd,Nat.reduceEqDiff,reduceIte,ak q1,aW ls (show i<ls.l.length by omega),fN hlast,cQ]
  by_cases hu:gC (bL r c)=upto
  ·have hci:i<cs.l.length:=by omega
   have hrow:cs.l[i]?=some cs.l[i]:=List.getElem?_eq_getElem hci
   have hxl:(cs.l[i]).l=(bL r c).map fun (p:Nat)=>(p:Int):=by
    have h3:(cs.l.map Sl.l)[i]?=some (iH (varsOf r) c.args.l):=by rw [hcs,List.getElem?_map,hv];rfl
    rw [List.getElem?_map,hrow] at h3
    exact Option.some.inj h3
   generalize cs.l[i]=xi at hrow hxl
   have hpl:∀ p ∈ bL r c,p<vs.length:=by rw [hvl];exact jO (nP hcm)
   have hplen:(bL r c).length=c.args.l.length:=by unfold bL placesOf;simp
   simp only [decide_eq_true hu,aJ,aU,Nat.reduceAdd,Nat.reduceEqDiff,reduceIte,ak q0,ak q4,ak q1,ak c1,bY,Df,aW cs hci,iG hrow]
   refine an (G9 (ps:=bL r c) qV (by have:=x2.next;omega) rfl hxl hpl (by rw [hplen];have:=hk.arity c hcm;omega) fun h3 t1 x3 t2=>?_)
   have c3:h3.get h'.next=some (.cells (bY c)):=by rw [x3.get _ (by omega)];exact c1
   have q03:h3.get N0=some (.cells [.ptr S 0]):=by rw [x3.get _ (by have:=x2.next;omega)];exact q0
   have x23:=x2.trans x3
   simp only [aU,Nat.reduceAdd,Nat.reduceEqDiff,reduceIte,ak c3,ak q03,bY,Df,AV.beq_refl,Bool.and_self,Bool.and_true,if_true]
   have hvlen:=jH vs (bL r c)
   have hS3:h3.get S=some (.cells [.int .i64 (n:Int),.map B]):=by rw [x23.get _ hSn];exact hS
   rw [← hvlen]
   refine an (EC (D:=D) (lo:=lo) hS3 (hD.ext x23) n1 t1 t2 (by have:=x23.next;omega) (by rw [hvlen,hplen];exact hk.arity c hcm) (kJ hvs hpl) (fun k0=>by rw [hvlen,hplen];exact hk.rel c hcm k0) (fun k12=>by rw [hvlen,hplen];exact hk.two c hcm k12) (hk.kinds c hcm) fun h5 x5=>?_)
   simp only [aU,Nat.reduceAdd,Nat.reduceEqDiff,reduceIte]
   cases hcv:eV n (eG D) c (bM vs (bL r c)) with
   |false=>
    simp only [Bool.not_false,aJ]
    rw [hr,F.cr.bt]
    have:yg n (eG D) r vs upto=false:=all_false hv (by rw [decide_eq_true hu,hcv];rfl)
    rw [this] at hK
    exact hK h5 (x23.trans x5)
   |true=>
    simp only [Bool.not_true,aG,e12,aI hi hbb,bindO_some]
    exact hn _ _ ⟨x23.trans x5,e0,e1,e2,e3,e10,e11,rfl,gJ hv ht (by rw [hcv,Bool.or_true])⟩
  ·simp only [decide_eq_false hu,aG,e12,aI hi hbb,bindO_some]
   exact hn _ _ ⟨x2,e0,e1,e2,e3,e10,e11,rfl,gJ hv ht (by rw [decide_eq_false hu];rfl)⟩
 ·rintro e h' ⟨x1,e0,e1,e2,e3,e10,e11,e12,ht⟩ K' hx
  rw [List.take_of_length_le (Nat.le_refl _)] at ht
  rw [F.cr.aO]
  simp only [e11,e12,aU,Nat.reduceAdd,Nat.reduceEqDiff,reduceIte,aR]
  rw [hx,F.cr.aD]
  have:yg n (eG D) r vs upto=true:=ht
  rw [this] at hK
  exact hK h' x1
end
end Go.AM
namespace Go.AM
open Go Go.Proofs
noncomputable section
structure NC (σ:Type) (Abs:σ→ag→Prop) (Dof:σ→bG→Option (Nat×List Bool)) (doF:List Int→σ→σ) (S B n lo base k:Nat) (r:aE) (g:FuncId) (ga gb:List AV):Prop where
 n1:1≤n
 n64:n≤64
 sb:S<base
 st:∀ s h,Abs s h→h.get S=some (.cells [.int .i64 (n:Int),.map B])∧ec (Dof s) h B lo∧Cd n (Dof s) r
 keep:∀ s h h',Abs s h→base≤h.next→(∀ b,b<base→h'.get b=h.get b)→h.next≤h'.next→Abs s h'
 run:∀ s h V vs K,Abs s h→base≤V→V<h.next→h.get V=some (.cells (vs.map iv))→vs.length=k→ir n vs=true →
  (∀ h',Abs (doF vs s) h'→(∀ b,base≤b→b<h.next→h'.get b=h.get b)→h.next≤h'.next→K (.ret (.bool true)) h'=true)→Sem Tryz.prog g (ga++([.slice V 0 vs.length 1]++gb)) h K
def jy{σ:Type}(Dof:σ→bG→Option (Nat×List Bool))(n:Nat)(r:aE)(v:Nat)(go:List Int→σ→List Int×σ)(acc:List Int×σ)(x:Nat):List Int×σ:=
 if yg n (eG (Dof acc.2)) r (acc.1.set v (x:Int)) (v:Int)=true then go (acc.1.set v (x:Int)) acc.2 else (acc.1.set v (x:Int),acc.2)
def gh{σ:Type}(Dof:σ→bG→Option (Nat×List Bool))(doF:List Int→σ→σ)(n:Nat)(r:aE):Nat→Nat→List Int→σ→List Int×σ
 |0,_,vs,s=>(vs,doF vs s)
 |m+1,v,vs,s=>(List.range n).foldl (jy Dof n r v (gh Dof doF n r m (v+1))) (vs,s)
theorem oM{n:Nat}{vs:List Int}(h:ir n vs=true)(v:Nat){x:Nat}(hx:x<n):ir n (vs.set v (x:Int))=true:=by
 unfold ir at h ⊢
 rw [List.all_eq_true] at h ⊢
 intro y hy
 rcases List.mem_or_eq_of_mem_set hy with hy|rfl
 ·exact h y hy
 ·simp;omega
theorem fq{α β:Type}{P:α→Prop}{f:α→β→α}:∀ {l:List β} {a:α},P a→(∀ a b,b ∈ l→P a→P (f a b))→P (l.foldl f a)
 |[],a,h,_=>h
 |b :: l,a,h,hf=>fq (l:=l) (hf a b List.mem_cons_self h) fun a c hc=>hf a c (List.mem_cons_of_mem _ hc)
theorem EK{σ:Type}{Dof:σ→bG→Option (Nat×List Bool)}{doF:List Int→σ→σ}{n:Nat}{r:aE}{k:Nat}:∀ (m v:Nat) (vs:List Int) (s:σ),vs.length=k→ir n vs=true→(gh Dof doF n r m v vs s).1.length=k∧ir n (gh Dof doF n r m v vs s).1=true
 |0,v,vs,s,h1,h2=>⟨h1,h2⟩
 |m+1,v,vs,s,h1,h2=>by
  refine fq (P:=fun (a:List Int×σ)=>a.1.length=k∧ir n a.1=true) ⟨h1,h2⟩ fun a x hx ha=>?_
  have hxn:=List.mem_range.1 hx
  have h3:(a.1.set v (x:Int)).length=k:=by rw [List.length_set];exact ha.1
  have h4:=oM ha.2 v hxn
  unfold jy
  split
  ·exact EK m (v+1) _ _ h3 h4
  ·exact ⟨h3,h4⟩
structure Cells (S n k:Nat) (N0 N1 N2 N4 N5 N6 V base:Nat) (i0:Int) (r:aE) (hd:Sl Int) (cs:Sl (Sl Int)) (ls:Sl Int) (g:FuncId) (ga gb:List AV) (h:ag):Prop where
 h0:h.get N0=some (.cells [.ptr S 0])
 h1:h.get N1=some (.cells (bU i0 r k (aq encI 1 hd) (aq eN 1 cs) (aq encI 1 ls)))
 h2:h.get N2=some (.cells [.func g ga gb])
 h4:h.get N4=some (.cells [.slice V 0 k 1])
 h5:h.get N5=some (.cells [.func 166 [] [.ptr N1 0,.ptr N0 0,.ptr N4 0]])
 h6:h.get N6=some (.cells [.func 167 [] [.ptr N1 0,.ptr N2 0,.ptr N4 0,.ptr N0 0,.ptr N5 0,.ptr N6 0]])
 lo:base≤N0∧base≤N1∧base≤N2∧base≤N4∧base≤N5∧base≤N6∧base≤V
 hi:N0<h.next∧N1<h.next∧N2<h.next∧N4<h.next∧N5<h.next∧N6<h.next∧V<h.next
 ne:N0≠V∧N1≠V∧N2≠V∧N4≠V∧N5≠V∧N6≠V
theorem Cells.keep{S n k N0 N1 N2 N4 N5 N6 V base:Nat}{i0:Int}{r:aE}{hd:Sl Int}{cs:Sl (Sl Int)}{ls:Sl Int}{g:FuncId}{ga gb:List AV}{h h':ag}(c:Cells S n k N0 N1 N2 N4 N5 N6 V base i0 r hd cs ls g ga gb h)(hb:∀ b,base≤b→b<h.next→b≠V→h'.get b=h.get b)(hn:h.next≤h'.next) :
  Cells S n k N0 N1 N2 N4 N5 N6 V base i0 r hd cs ls g ga gb h':=by
 obtain ⟨h0,h1,h2,h4,h5,h6,⟨l0,l1,l2,l4,l5,l6,lv⟩,⟨i0',i1,i2,i4,i5,i6,iv'⟩,⟨n0,n1,n2,n4,n5,n6⟩⟩:=c
 exact ⟨by rw [hb _ l0 i0' n0];exact h0,by rw [hb _ l1 i1 n1];exact h1,by rw [hb _ l2 i2 n2];exact h2,by rw [hb _ l4 i4 n4];exact h4,by rw [hb _ l5 i5 n5];exact h5,by rw [hb _ l6 i6 n6];exact h6,
  ⟨l0,l1,l2,l4,l5,l6,lv⟩,⟨by omega,by omega,by omega,by omega,by omega,by omega,by omega⟩,⟨n0,n1,n2,n4,n5,n6⟩⟩
set_option maxHeartbeats 1000000 in
theorem H7{σ:Type}{Abs:σ→ag→Prop}{Dof:σ→bG→Option (Nat×List Bool)}{doF:List Int→σ→σ}{S B n lo base k:Nat}{r:aE}{g:FuncId}{ga gb:List AV}(d:NC σ Abs Dof doF S B n lo base k r g ga gb)
  {N0 N1 N2 N4 N5 N6 V:Nat} {i0:Int} {hd:Sl Int} {cs:Sl (Sl Int)} {ls:Sl Int} (hf:r.lB) (hk:k=(varsOf r).length) (hk12:k≤12) (hcs:cs.l.map Sl.l=r.body.l.map (fun c=>iH (varsOf r) c.args.l)) (hls:ls.l=r.body.l.map (fun c=>gC (placesOf (varsOf r) c.args.l))) :
  ∀ (m v:Nat),v+m=k→∀ (vs:List Int) (s:σ) (h:ag) (K:Out→ag→Bool),Abs s h→base≤h.next→Cells S n k N0 N1 N2 N4 N5 N6 V base i0 r hd cs ls g ga gb h→h.get V=some (.cells (vs.map iv))→vs.length=k→ir n vs=true →
   (∀ h',Abs (gh Dof doF n r m v vs s).2 h'→h'.get V=some (.cells ((gh Dof doF n r m v vs s).1.map iv))→(∀ b,base≤b→b<h.next→b≠V→h'.get b=h.get b)→h.next≤h'.next→K (.ret (.bool true)) h'=true) →
   Sem Tryz.prog 167 [.int .i64 (v:Int),.ptr N1 0,.ptr N2 0,.ptr N4 0,.ptr N0 0,.ptr N5 0,.ptr N6 0] h K:=by
 intro m
 induction m with
 |zero=>
  intro v hv vs s h K ha hbn hc hV hvl hvs hK
  have h1:=hc.h1
  simp only [bU] at h1
  refine F.jW ?_
  simp only [aU,Nat.reduceAdd,Nat.reduceEqDiff,reduceIte,ak h1,cQ,decide_eq_true (by omega:(v:Int)=(k:Int)),aJ,ak hc.h2,ak hc.h4,callV_func]
  rw [← hvl]
  refine an (d.run s h V vs _ ha hc.lo.2.2.2.2.2.2 hc.hi.2.2.2.2.2.2 hV hvl hvs fun h' a1 a2 a3=>?_)
  simp only [aU,Nat.reduceAdd,Nat.reduceEqDiff,reduceIte]
  exact hK h' a1 (by rw [a2 V hc.lo.2.2.2.2.2.2 hc.hi.2.2.2.2.2.2];exact hV) (fun b b1 b2 _=>a2 b b1 b2) a3
 |succ m ih=>
  intro v hv vs s h K ha hbn hc hV hvl hvs hK
  have h1:=hc.h1
  simp only [bU] at h1
  have hS:=(d.st s h ha).1
  have n64:=d.n64
  refine F.jW ?_
  simp only [aU,Nat.reduceAdd,Nat.reduceEqDiff,reduceIte,ak h1,cQ,decide_eq_false (by omega:¬ (v:Int)=(k:Int)),aG,ak hc.h0,bX,ak hS]
  refine aC 0 n (Nat.zero_le _) (fun x e h'=>∃ acc:List Int×σ,acc=(List.range x).foldl (jy Dof n r v (gh Dof doF n r m (v+1))) (vs,s)∧Abs acc.2 h'∧h'.get V=some (.cells (acc.1.map iv))∧acc.1.length=k∧ir n acc.1=true ∧
   (∀ b,base≤b→b<h.next→b≠V→h'.get b=h.get b)∧h.next≤h'.next∧e 0 = .int .i64 (v:Int)∧e 1 = .ptr N1 0∧e 2 = .ptr N2 0∧e 3 = .ptr N4 0∧e 4 = .ptr N0 0∧e 5 = .ptr N5 0∧e 6 = .ptr N6 0∧e 20 = .int .i64 (n:Int)∧e 21 = .int .i64 (x:Int))
   ⟨(vs,s),rfl,ha,hV,hvl,hvs,fun _ _ _ _=>rfl,Nat.le_refl _,rfl,rfl,rfl,rfl,rfl,rfl,rfl,rfl,rfl⟩ ?_ ?_
  ·rintro x e h' _ hx ⟨acc,hacc,qa,qV,ql,qin,qf,qn,e0,e1,e2,e3,e4,e5,e6,e20,e21⟩ K' hn hx' hr hp
   have hstep:(List.range (x+1)).foldl (jy Dof n r v (gh Dof doF n r m (v+1))) (vs,s)=jy Dof n r v (gh Dof doF n r m (v+1)) acc x:=by
    rw [List.range_succ,List.foldl_append,← hacc];rfl
   unfold jy at hstep
   have hc':=hc.keep qf qn
   have hst:=mC (v:=(x:Int)) qV (i:=v) (by omega)
   have hvk:v<k:=by omega
   rw [F.cM.aO]
   simp only [e0,e3,e5,e20,e21,aU,Nat.reduceAdd,Nat.reduceEqDiff,reduceIte,bg hx,ak hc'.h4,jh hvk,hst]
   have qn0:(h'.set V (.cells ((acc.1.set v (x:Int)).map iv))).next=h'.next:=ag.next_set _ _ _
   have qg:∀ b,b≠V→(h'.set V (.cells ((acc.1.set v (x:Int)).map iv))).get b=h'.get b:=fun b hb=>by rw [ag.aN,if_neg hb]
   have qV2:(h'.set V (.cells ((acc.1.set v (x:Int)).map iv))).get V=some (.cells ((acc.1.set v (x:Int)).map iv)):=by rw [ag.aN,if_pos rfl]
   generalize (h'.set V (.cells ((acc.1.set v (x:Int)).map iv)))=H at qn0 qg qV2 ⊢
   have cH:=hc'.keep (h':=H) (fun b _ _ hb=>qg b hb) (by omega)
   have lV:=hc.lo.2.2.2.2.2.2
   have aH:=d.keep _ _ H qa (by omega) (fun b hb=>qg b (by omega)) (by omega)
   obtain ⟨sS,sD,sA⟩:=d.st _ _ aH
   have hl2:(acc.1.set v (x:Int)).length=k:=by rw [List.length_set];exact ql
   have hin2:=oM qin v hx
   generalize (acc.1.set v (x:Int))=vs2 at hstep qV2 hl2 hin2
   have c4:=cH.h4
   rw [← hl2] at c4
   simp only [ak cH.h5,aU,Nat.reduceAdd,Nat.reduceEqDiff,reduceIte,callV_func,List.nil_append,List.cons_append]
   refine an (EJ (n:=n) (B:=B) (lo:=lo) (S:=S) hf hcs hls sS sD (by have:=d.sb;omega) cH.h0 cH.hi.1 cH.h1 cH.hi.2.1 c4 cH.hi.2.2.2.1 qV2 cH.hi.2.2.2.2.2.2 (by omega) hin2 d.n1 sA fun h3 x3=>?_)
   have c3:=cH.keep (fun b _ hb _=>x3.get b hb) x3.next
   have a3:=d.keep _ _ h3 aH (by omega) (fun b hb=>x3.get b (by omega)) x3.next
   have v3:h3.get V=some (.cells (vs2.map iv)):=by rw [x3.get V cH.hi.2.2.2.2.2.2];exact qV2
   have n3:=x3.next
   have f3:∀ b,base≤b→b<h.next→b≠V→h3.get b=h.get b:=fun b b1 b2 b3=>by rw [x3.get b (by omega),qg b b3,qf b b1 b2 b3]
   simp only [aU,Nat.reduceAdd,Nat.reduceEqDiff,reduceIte]
   cases hask:yg n (eG (Dof acc.2)) r vs2 (v:Int) with
   |false=>
    rw [hask,if_neg (by simp)] at hstep
    simp only [aG,e21,aI hx (show n≤cy by unfold cy;omega),bindO_some]
    exact hn _ _ ⟨_,hstep.symm,a3,v3,hl2,hin2,f3,by omega,e0,e1,e2,e3,e4,e5,e6,e20,rfl⟩
   |true=>
    rw [hask,if_pos rfl] at hstep
    have hv1:=aI (i:=v) (n:=13) (by omega) (by unfold cy;omega)
    simp only [aJ,e0,e6,ak c3.h6,aU,Nat.reduceAdd,Nat.reduceEqDiff,reduceIte,hv1,callV_func,List.nil_append,List.cons_append]
    refine an (ih (v+1) (by omega) vs2 acc.2 h3 _ a3 (by omega) c3 v3 hl2 hin2 fun h4 a4 v4 f4 n4=>?_)
    obtain ⟨w1,w2⟩:=EK (Dof:=Dof) (doF:=doF) (r:=r) (k:=k) m (v+1) vs2 acc.2 hl2 hin2
    simp only [aU,Nat.reduceAdd,Nat.reduceEqDiff,reduceIte,Bool.not_true,aG,e21,aI hx (show n≤cy by unfold cy;omega)]
    exact hn _ _ ⟨_,hstep.symm,a4,v4,w1,w2,fun b b1 b2 b3=>by rw [f4 b b1 (by omega) b3,f3 b b1 b2 b3],by omega,e0,e1,e2,e3,e4,e5,e6,e20,rfl⟩
  ·rintro e h' ⟨acc,hacc,qa,qV,ql,qin,qf,qn,e0,e1,e2,e3,e4,e5,e6,e20,e21⟩ K' hx'
   rw [F.cM.aO]
   simp only [e20,e21,aU,Nat.reduceAdd,Nat.reduceEqDiff,reduceIte,aR]
   rw [hx',F.cM.aD]
   have:gh Dof doF n r (m+1) v vs s=acc:=hacc.symm
   rw [this] at hK
   exact hK h' qa qV qf qn
end
end Go.AM
namespace Go.AM
open Go Go.Proofs
noncomputable section
def uH{σ:Type}(Dof:σ→bG→Option (Nat×List Bool))(doF:List Int→σ→σ)(n:Nat)(r:aE)(k:Nat)(s:σ):σ:=
 if yg n (eG (Dof s)) r (List.replicate k 0) (-1)=true then (gh Dof doF n r k 0 (List.replicate k 0) s).2 else s
theorem vT(i:Int)(r:aE)(n:Int)(hd:Sl Int)(cs:Sl (Sl Int))(ls:Sl Int):bN (bU i r n (aq encI 1 hd) (aq eN 1 cs) (aq encI 1 ls))=true:=by
 unfold bU
 simp only [bN,ja,Bool.and_true];rfl
theorem yI{n:Nat}(h:1≤n)(k:Nat):ir n (List.replicate k (0:Int))=true:=by
 unfold ir;rw [List.all_eq_true]
 intro x hx
 rw [(List.mem_replicate.1 hx).2]
 simp;omega
set_option maxHeartbeats 1000000 in
theorem F7{σ:Type}{Abs:σ→ag→Prop}{Dof:σ→bG→Option (Nat×List Bool)}{doF:List Int→σ→σ}{S B n lo base k:Nat}{r:aE}{g:FuncId}{ga gb:List AV}(d:NC σ Abs Dof doF S B n lo base k r g ga gb)
  {i0:Int} {hd:Sl Int} {cs:Sl (Sl Int)} {ls:Sl Int} (hf:r.lB) (hk:k=(varsOf r).length) (hk12:k≤12) (hcs:cs.l.map Sl.l=r.body.l.map (fun c=>iH (varsOf r) c.args.l)) (hls:ls.l=r.body.l.map (fun c=>gC (placesOf (varsOf r) c.args.l)))
  {s:σ} {h:ag} {K:Out→ag→Bool} (ha:Abs s h) (hbn:base≤h.next)
  (hK:∀ h',Abs (uH Dof doF n r k s) h'→(∀ b,base≤b→b<h.next→h'.get b=h.get b)→h.next≤h'.next→K (.ret (.tuple [])) h'=true) :
  Sem Tryz.prog 122 [.ptr S 0,.agg (bU i0 r k (aq encI 1 hd) (aq eN 1 cs) (aq encI 1 ls)),.func g ga gb] h K:=by
 refine F.qi ?_
 simp only [oy (x:=.ptr S 0) rfl,cU (vT i0 r k hd cs ls),oy (x:=.func g ga gb) rfl,bindO_some,ag.next_alloc]
 have g0:(((h.alloc (.cells [.ptr S 0])).alloc (.cells (bU i0 r k (aq encI 1 hd) (aq eN 1 cs) (aq encI 1 ls)))).alloc (.cells [.func g ga gb])).get h.next=some (.cells [.ptr S 0]):=by
  rw [ag.bf,ag.next_alloc,ag.next_alloc,if_neg (by omega),ag.bf,ag.next_alloc,if_neg (by omega)];exact aB _ _
 have g1:(((h.alloc (.cells [.ptr S 0])).alloc (.cells (bU i0 r k (aq encI 1 hd) (aq eN 1 cs) (aq encI 1 ls)))).alloc (.cells [.func g ga gb])).get (h.next+1)=some (.cells (bU i0 r k (aq encI 1 hd) (aq eN 1 cs) (aq encI 1 ls))):=by
  rw [ag.bf,ag.next_alloc,ag.next_alloc,if_neg (by omega)];exact aB _ _
 have g2:(((h.alloc (.cells [.ptr S 0])).alloc (.cells (bU i0 r k (aq encI 1 hd) (aq eN 1 cs) (aq encI 1 ls)))).alloc (.cells [.func g ga gb])).get (h.next+1+1)=some (.cells [.func g ga gb]):=aB _ _
 have gx:bJ h (((h.alloc (.cells [.ptr S 0])).alloc (.cells (bU i0 r k (aq encI 1 hd) (aq eN 1 cs) (aq encI 1 ls)))).alloc (.cells [.func g ga gb])):=((bJ.alloc _ _).trans (bJ.alloc _ _)).trans (bJ.alloc _ _)
 have gn:(((h.alloc (.cells [.ptr S 0])).alloc (.cells (bU i0 r k (aq encI 1 hd) (aq eN 1 cs) (aq encI 1 ls)))).alloc (.cells [.func g ga gb])).next=h.next+3:=rfl
 generalize (((h.alloc (.cells [.ptr S 0])).alloc (.cells (bU i0 r k (aq encI 1 hd) (aq eN 1 cs) (aq encI 1 ls)))).alloc (.cells [.func g ga gb]))=H3 at g0 g1 g2 gx gn ⊢
 have g1':=g1
 simp only [bU] at g1'
 simp only [aU,Nat.reduceAdd,Nat.reduceEqDiff,reduceIte,ak g1',rD (show k≤1000000 by omega)]
 have v6:=aB H3 (.cells ((List.replicate k (0:Int)).map iv))
 have x6:=bJ.alloc H3 (.cells ((List.replicate k (0:Int)).map iv))
 have n6:(H3.alloc (.cells ((List.replicate k (0:Int)).map iv))).next=H3.next+1:=ag.next_alloc _ _
 generalize (H3.alloc (.cells ((List.replicate k (0:Int)).map iv)))=H6 at v6 x6 n6 ⊢
 obtain ⟨h7,s7,a7,o7,n7⟩:=kG (h:=H6) (z:=.nils) (v:=.slice H3.next 0 k 1) rfl rfl
 obtain ⟨h8,s8,a8,o8,n8⟩:=kG (h:=h7) (z:=.nilf) (v:=.func 166 [] [.ptr (h.next+1) 0,.ptr h.next 0,.ptr H6.next 0]) rfl rfl
 obtain ⟨h9,s9,a9,o9,n9⟩:=kG (h:=h8) (z:=.nilf) (v:=.func 167 [] [.ptr (h.next+1) 0,.ptr (h.next+1+1) 0,.ptr H6.next 0,.ptr h.next 0,.ptr h7.next 0,.ptr h8.next 0]) rfl rfl
 simp only [s7,s8,s9,bindO_some]
 have low:∀ b,b<H6.next→h9.get b=H6.get b:=fun b hb=>by rw [o9 b (by omega),o8 b (by omega),o7 b (by omega)]
 have c:Cells S n k h.next (h.next+1) (h.next+1+1) H6.next h7.next h8.next H3.next base i0 r hd cs ls g ga gb h9:=
  ⟨by rw [low _ (by omega),x6.get _ (by omega)];exact g0,by rw [low _ (by omega),x6.get _ (by omega)];exact g1,by rw [low _ (by omega),x6.get _ (by omega)];exact g2,
   by rw [o9 _ (by omega),o8 _ (by omega)];exact a7,by rw [o9 _ (by omega)];exact a8,a9,
   ⟨by omega,by omega,by omega,by omega,by omega,by omega,by omega⟩,⟨by omega,by omega,by omega,by omega,by omega,by omega,by omega⟩,⟨by omega,by omega,by omega,by omega,by omega,by omega⟩⟩
 have x9:bJ h h9:=⟨by omega,fun b hb=>by rw [low b (by omega),x6.get b (by omega),gx.get b hb]⟩
 have v9:h9.get H3.next=some (.cells ((List.replicate k (0:Int)).map iv)):=by rw [low _ (by omega)];exact v6
 have a9':=d.keep _ _ h9 ha hbn (fun b hb=>x9.get b (by omega)) x9.next
 have hl0:(List.replicate k (0:Int)).length=k:=List.length_replicate
 have hin0:=yI d.n1 k
 obtain ⟨sS,sD,sA⟩:=d.st _ _ a9'
 have c4:=c.h4
 rw [← hl0] at c4
 generalize hvs:List.replicate k (0:Int)=vs0 at v9 hl0 hin0 c4
 have heF:uH Dof doF n r k s=if yg n (eG (Dof s)) r vs0 (-1)=true then (gh Dof doF n r k 0 vs0 s).2 else s:=by unfold uH;rw [hvs]
 simp only [aU,Nat.reduceAdd,Nat.reduceEqDiff,reduceIte,ak c.h5,callV_func,List.nil_append,List.cons_append]
 refine an (EJ (n:=n) (B:=B) (lo:=lo) (S:=S) hf hcs hls sS sD (by have:=d.sb;have:=x9.next;omega) c.h0 c.hi.1 c.h1 c.hi.2.1 c4 c.hi.2.2.2.1 v9 c.hi.2.2.2.2.2.2 (by omega) hin0 d.n1 sA fun h10 x10=>?_)
 have n10:=x10.next
 have c10:=c.keep (fun b _ hb _=>x10.get b hb) n10
 have a10:=d.keep _ _ h10 a9' (by have:=x9.next;omega) (fun b hb=>x10.get b (by have:=x9.next;omega)) n10
 have v10:h10.get H3.next=some (.cells (vs0.map iv)):=by rw [x10.get _ c.hi.2.2.2.2.2.2];exact v9
 simp only [aU,Nat.reduceAdd,Nat.reduceEqDiff,reduceIte]
 cases hask:yg n (eG (Dof s)) r vs0 (-1) with
 |false=>
  rw [hask,if_neg (by simp)] at heF
  rw [heF] at hK
  simp only [aG]
  exact hK h10 a10 (fun b _ b2=>(x9.trans x10).get b b2) (x9.trans x10).next
 |true=>
  rw [hask,if_pos rfl] at heF
  rw [heF] at hK
  simp only [aJ,aU,Nat.reduceAdd,Nat.reduceEqDiff,reduceIte,ak c10.h6,callV_func,List.nil_append,List.cons_append]
  refine an (H7 d hf hk hk12 hcs hls k 0 (by omega) vs0 s h10 _ a10 (by have:=x9.next;omega) c10 v10 hl0 hin0 fun h11 a11 v11 f11 n11=>?_)
  simp only [aU,Nat.reduceAdd,Nat.reduceEqDiff,reduceIte]
  exact hK h11 a11 (fun b b1 b2=>by rw [f11 b b1 (by have:=x9.next;omega) (by omega),(x9.trans x10).get b b2]) (by have:=x9.next;omega)
end
end Go.AM
namespace Go.AM
open Go Go.Proofs
noncomputable section
abbrev DB:=bG→Option (Nat×List Bool)
def eo(D D0:DB):Prop:=∀ nm,(D nm).map (fun p=>(p.1,p.2.length))=(D0 nm).map (fun p=>(p.1,p.2.length))
theorem eo.get{D D0:DB}(h:eo D D0){nm:bG}{p0:Nat×List Bool}(h0:D0 nm=some p0):∃ p,D nm=some p∧p.1=p0.1∧p.2.length=p0.2.length:=by
 have:=h nm
 rw [h0] at this
 cases hd:D nm with
 |none=>rw [hd] at this;cases this
 |some p=>
  rw [hd] at this
  simp only [Option.map_some,Option.some.injEq,Prod.mk.injEq] at this
  exact ⟨p,rfl,this.1,this.2⟩
theorem eo.back{D D0:DB}(h:eo D D0){nm:bG}{p:Nat×List Bool}(hp:D nm=some p):∃ p0,D0 nm=some p0∧p.1=p0.1∧p.2.length=p0.2.length:=by
 have:=h nm
 rw [hp] at this
 cases hd:D0 nm with
 |none=>rw [hd] at this;cases this
 |some p0=>
  rw [hd] at this
  simp only [Option.map_some,Option.some.injEq,Prod.mk.injEq] at this
  exact ⟨p0,rfl,this.1,this.2⟩
theorem eo.set{D D0:DB}(h:eo D D0){nm:bG}{p:Nat×List Bool}(hp:D nm=some p){d:List Bool}(hd:d.length=p.2.length):eo (jw D nm p.1 d) D0:=fun j=>by
 rw [← h j]
 unfold jw
 by_cases e:j=nm
 ·rw [if_pos e,e,hp,Option.map_some,Option.map_some,hd]
 ·rw [if_neg e]
def pN(n:Nat)(r:aE)(vs:List Int)(s:DB×Bool):DB×Bool:=
 match s.1 r.name with
 |none=>s
 |some p=>if p.2.getD (iL n (bM vs (placesOf (varsOf r) r.args.l))) false=true then s else (jw s.1 r.name p.1 (p.2.set (iL n (bM vs (placesOf (varsOf r) r.args.l))) true),true)
structure mJ (S B n lo base P3 P5 P6 PL:Nat) (D0:DB) (r:aE) (i0:Int) (k:Nat) (hd:Sl Int) (cs:Sl (Sl Int)) (ls:Sl Int) (ng:FuncId) (na nb:List AV) (h0:ag) (s:DB×Bool) (h:ag):Prop where
 hS:h.get S=some (.cells [.int .i64 (n:Int),.map B])
 hD:ec s.1 h B lo
 Ir:eo s.1 D0
 h3:h.get P3=some (.cells [.ptr S 0])
 h5:h.get P5=some (.cells [.func ng na nb])
 h6:h.get P6=some (.cells [.bool s.2])
 hL:h.get PL=some (.cells (bU i0 r k (aq encI 1 hd) (aq eN 1 cs) (aq encI 1 ls)))
 lt:base≤h.next
 old:∀ b,b<base→b≠P6→(∀ nm p,D0 nm=some p→b≠p.1)→h.get b=h0.get b
structure Hg (S B n lo base P3 P5 P6 PL:Nat) (D0:DB) (r:aE) (k:Nat) (hd:Sl Int) (ng:FuncId) (na nb:List AV):Prop where
 n1:1≤n
 n64:n≤64
 low:S<base∧B<base∧P3<base∧P5<base∧P6<base∧PL<base
 rows:∀ nm p,D0 nm=some p→p.1<base∧p.1≠S∧p.1≠P3∧p.1≠P5∧p.1≠P6∧p.1≠PL
 six:P6≠S∧P6≠B∧P6≠P3∧P6≠P5∧P6≠PL
 ask:∀ D,eo D D0→Cd n D r
 head:n ^ r.args.l.length≤4096∧r.args.l.length≤12∧∃ p,D0 r.name=some p∧p.2.length=n ^ r.args.l.length
 hkk:k=(varsOf r).length
 hhd:hd.l=iH (varsOf r) r.args.l
 note:∀ (i:Int) (r:aE) (k:Int) (hd:Sl Int) (cs:Sl (Sl Int)) (ls:Sl Int) (y:AV) (h:ag) (K:Out→ag→Bool),(∀ h',bJ h h'→K (.ret (.tuple [])) h'=true)→Sem Tryz.prog ng (na++([.agg (bU i r k (aq encI 1 hd) (aq eN 1 cs) (aq encI 1 ls)),y]++nb)) h K
theorem mJ.keep{S B n lo base P3 P5 P6 PL:Nat}{D0:DB}{r:aE}{i0:Int}{k:Nat}{hd:Sl Int}{cs:Sl (Sl Int)}{ls:Sl Int}{ng:FuncId}{na nb:List AV}{h0:ag}(o:Hg S B n lo base P3 P5 P6 PL D0 r k hd ng na nb){s:DB×Bool}{h h':ag}
  (a:mJ S B n lo base P3 P5 P6 PL D0 r i0 k hd cs ls ng na nb h0 s h) (hb:∀ b,b<base→h'.get b=h.get b) (hn:h.next≤h'.next):mJ S B n lo base P3 P5 P6 PL D0 r i0 k hd cs ls ng na nb h0 s h':=by
 obtain ⟨l1,l2,l3,l4,l5,l6⟩:=o.low
 refine ⟨by rw [hb _ l1];exact a.hS,?_,a.Ir,by rw [hb _ l3];exact a.h3,by rw [hb _ l4];exact a.h5,by rw [hb _ l5];exact a.h6,by rw [hb _ l6];exact a.hL,Nat.le_trans a.lt hn,fun b b1 b2 b3=>by rw [hb b b1];exact a.old b b1 b2 b3⟩
 obtain ⟨es,ck,m,e1,e2,e3⟩:=a.hD.ex
 refine ⟨⟨es,ck,m,by rw [hb _ l2];exact e1,e2,e3⟩,fun nm p hp=>?_,a.hD.inj,Nat.lt_of_lt_of_le a.hD.lt hn⟩
 obtain ⟨q1,q2,q3,q4⟩:=a.hD.blk nm p hp
 obtain ⟨p0,r1,r2,_⟩:=a.Ir.back hp
 have:=(o.rows nm p0 r1).1
 exact ⟨q1,Nat.lt_of_lt_of_le q2 hn,q3,by rw [hb _ (by omega)];exact q4⟩
set_option maxHeartbeats 1000000 in
theorem JO{S B n lo base P3 P5 P6 PL:Nat}{D0:DB}{r:aE}{i0:Int}{k:Nat}{hd:Sl Int}{cs:Sl (Sl Int)}{ls:Sl Int}{ng:FuncId}{na nb:List AV}{h0:ag}(o:Hg S B n lo base P3 P5 P6 PL D0 r k hd ng na nb){s:DB×Bool}{h:ag}{V:Nat}{vs:List Int}{K:Out→ag→Bool}
  (a:mJ S B n lo base P3 P5 P6 PL D0 r i0 k hd cs ls ng na nb h0 s h) (hVb:base≤V) (hVn:V<h.next) (hV:h.get V=some (.cells (vs.map iv))) (hvl:vs.length=k) (hvs:ir n vs=true)
  (hK:∀ h',mJ S B n lo base P3 P5 P6 PL D0 r i0 k hd cs ls ng na nb h0 (pN n r vs s) h'→(∀ b,base≤b→b<h.next→h'.get b=h.get b)→h.next≤h'.next→K (.ret (.bool true)) h'=true) :
  Sem Tryz.prog 158 ([]++([.slice V 0 vs.length 1]++[.ptr PL 0,.ptr P3 0,.ptr P6 0,.ptr P5 0])) h K:=by
 obtain ⟨l1,l2,l3,l4,l5,l6⟩:=o.low
 obtain ⟨hpow,h12,p0,hp0,hp0l⟩:=o.head
 have hL:=a.hL
 simp only [bU] at hL
 simp only [List.nil_append,List.cons_append]
 refine F.nN ?_
 simp only [aU,Nat.reduceAdd,Nat.reduceEqDiff,reduceIte,ak hL]
 have hpl:∀ p ∈ placesOf (varsOf r) r.args.l,p<vs.length:=by rw [hvl,o.hkk];exact jO kI
 have hplen:(placesOf (varsOf r) r.args.l).length=r.args.l.length:=by unfold placesOf;simp
 refine an (G9 (ps:=placesOf (varsOf r) r.args.l) hV hVn rfl o.hhd hpl (by rw [hplen];omega) fun h3 t1 x3 t2=>?_)
 have lt0:=a.lt
 have a3:=mJ.keep o a (fun b hb=>x3.get b (by omega)) x3.next
 obtain ⟨p,hp,hpb,hplen2⟩:=a3.Ir.get hp0
 have hL3:=a3.hL
 simp only [bU] at hL3
 have hvlen:=jH vs (placesOf (varsOf r) r.args.l)
 have hin:=kJ hvs hpl
 rw [← hvlen]
 have hdo:pN n r vs s=if p.2.getD (iL n (bM vs (placesOf (varsOf r) r.args.l))) false=true then s else (jw s.1 r.name p.1 (p.2.set (iL n (bM vs (placesOf (varsOf r) r.args.l))) true),true):=by unfold pN;rw [hp]
 have hrk:iL n (bM vs (placesOf (varsOf r) r.args.l))<p.2.length:=by
  have:=mH hin
  rw [hvlen,hplen] at this
  omega
 have hbit:p.2[iL n (bM vs (placesOf (varsOf r) r.args.l))]?=some (p.2.getD (iL n (bM vs (placesOf (varsOf r) r.args.l))) false):=by rw [List.getD_eq_getElem?_getD,List.getElem?_eq_getElem hrk];rfl
 obtain ⟨b1,b2,b3,b4⟩:=a3.hD.blk r.name p hp
 have hrank:∀ {K:Out→ag→Bool},K (.ret (.int .i64 ((iL n (bM vs (placesOf (varsOf r) r.args.l)):Nat):Int))) h3=true→Sem Tryz.prog 69 [.ptr S 0,.slice h.next 0 (bM vs (placesOf (varsOf r) r.args.l)).length 1] h3 K:=fun hk=>xd a3.hS o.n1 t1 (by rw [hvlen,hplen];exact h12) (by rw [hvlen,hplen];exact hpow) hin hk
 generalize iL n (bM vs (placesOf (varsOf r) r.args.l))=rk at hdo hrk hbit hrank
 simp only [aU,Nat.reduceAdd,Nat.reduceEqDiff,reduceIte,ak a3.h3,bX,ak a3.hS,ak hL3,a3.hD.look hp]
 refine an (hrank ?_)
 simp only [aU,Nat.reduceAdd,Nat.reduceEqDiff,reduceIte,jh hrk,uE b4 hbit]
 cases hbv:p.2.getD rk false with
 |true=>
  rw [hbv,if_pos rfl] at hdo
  simp only [Bool.not_true,aG]
  rw [hdo] at hK
  exact hK h3 a3 (fun b _ b2=>x3.get b b2) x3.next
 |false=>
  rw [hbv,if_neg (by simp)] at hdo
  simp only [Bool.not_false,aJ,ak a3.h3,aU,Nat.reduceAdd,Nat.reduceEqDiff,reduceIte]
  refine an (hrank ?_)
  obtain ⟨w1,w2,w3,w4,w5,w6⟩:=o.rows r.name p0 hp0
  rw [← hpb] at w1 w2 w3 w4 w5 w6
  obtain ⟨y1,y2,y3,y4,y5⟩:=o.six
  have hset:=a3.hD.set hp (d:=p.2.set rk true) (by simp)
  have st1:=uF (v:=true) b4 hrk
  have g6:(h3.set p.1 (.cells ((p.2.set rk true).map bv))).get P6=some (.cells [.bool s.2]):=by rw [ag.aN,if_neg (Ne.symm w5)];exact a3.h6
  have st2:bp 1 (.ptr P6 0) (.bool true) (h3.set p.1 (.cells ((p.2.set rk true).map bv)))=some ((h3.set p.1 (.cells ((p.2.set rk true).map bv))).set P6 (.cells [.bool true])):=by
   rw [cT (n:=1) g6 rfl rfl (by simp)];rfl
  have q:∀ b,b≠p.1→b≠P6→((h3.set p.1 (.cells ((p.2.set rk true).map bv))).set P6 (.cells [.bool true])).get b=h3.get b:=fun b hb1 hb2=>by rw [ag.aN,if_neg hb2,ag.aN,if_neg hb1]
  have q6:((h3.set p.1 (.cells ((p.2.set rk true).map bv))).set P6 (.cells [.bool true])).get P6=some (.cells [.bool true]):=by rw [ag.aN,if_pos rfl]
  have qn:((h3.set p.1 (.cells ((p.2.set rk true).map bv))).set P6 (.cells [.bool true])).next=h3.next:=by rw [ag.next_set,ag.next_set]
  have hD':ec (jw s.1 r.name p.1 (p.2.set rk true)) ((h3.set p.1 (.cells ((p.2.set rk true).map bv))).set P6 (.cells [.bool true])) B lo:=by
   obtain ⟨es,ck,m,e1,e2,e3⟩:=hset.ex
   refine ⟨⟨es,ck,m,by rw [ag.aN,if_neg (Ne.symm y2)];exact e1,e2,e3⟩,fun nm p' hp'=>?_,hset.inj,by rw [ag.next_set];exact hset.lt⟩
   obtain ⟨c1,c2,c3,c4⟩:=hset.blk nm p' hp'
   obtain ⟨p0',d1,d2,_⟩:=(a3.Ir.set hp (d:=p.2.set rk true) (by simp)).back hp'
   have:=(o.rows nm p0' d1).2.2.2.2.1
   exact ⟨c1,by rw [ag.next_set];exact c2,c3,by rw [ag.aN,if_neg (by rw [d2];exact this)];exact c4⟩
  simp only [aU,Nat.reduceAdd,Nat.reduceEqDiff,reduceIte,jh hrk,st1,st2]
  generalize ((h3.set p.1 (.cells ((p.2.set rk true).map bv))).set P6 (.cells [.bool true]))=H at q q6 qn hD' ⊢
  have aH:mJ S B n lo base P3 P5 P6 PL D0 r i0 k hd cs ls ng na nb h0 (pN n r vs s) H:=by
   rw [hdo]
   exact ⟨by rw [q S (Ne.symm w2) (Ne.symm y1)];exact a3.hS,hD',a3.Ir.set hp (by simp),by rw [q P3 (Ne.symm w3) (Ne.symm y3)];exact a3.h3,by rw [q P5 (Ne.symm w4) (Ne.symm y4)];exact a3.h5,q6,by rw [q PL (Ne.symm w6) (Ne.symm y5)];exact a3.hL,by rw [qn];exact a3.lt,fun b b1 b2 b3=>by rw [q b (by rw [hpb];exact b3 _ _ hp0) b2];exact a3.old b b1 b2 b3⟩
  have hLH:=aH.hL
  simp only [bU] at hLH
  simp only [ak aH.h5,ak hLH,Hf,aU,Nat.reduceAdd,Nat.reduceEqDiff,reduceIte,callV_func]
  refine an (o.note i0 r k hd cs ls _ H _ fun h9 x9=>?_)
  simp only [aU,Nat.reduceAdd,Nat.reduceEqDiff,reduceIte]
  have ltH:=aH.lt
  have n9:=x9.next
  exact hK h9 (mJ.keep o aH (fun b hb=>x9.get b (by omega)) n9) (fun b b1 b2=>by have:=x3.next;rw [x9.get b (by omega),q b (by omega) (by omega),x3.get b b2]) (by have:=x3.next;omega)
theorem F8{S B n lo base P3 P5 P6 PL:Nat}{D0:DB}{r:aE}{i0:Int}{k:Nat}{hd:Sl Int}{cs:Sl (Sl Int)}{ls:Sl Int}{ng:FuncId}{na nb:List AV}{h0:ag}(o:Hg S B n lo base P3 P5 P6 PL D0 r k hd ng na nb) :
  NC (DB×Bool) (mJ S B n lo base P3 P5 P6 PL D0 r i0 k hd cs ls ng na nb h0) (fun s=>s.1) (pN n r) S B n lo base k r 158 [] [.ptr PL 0,.ptr P3 0,.ptr P6 0,.ptr P5 0]:=
 ⟨o.n1,o.n64,o.low.1,fun s h a=>⟨a.hS,a.hD,o.ask _ a.Ir⟩,fun s h h' a _ hb hn=>mJ.keep o a hb hn,fun s h V vs K a h1 h2 h3 h4 h5 hK=>JO o a h1 h2 h3 h4 h5 hK⟩
end
end Go.AM
namespace Go.AM
open Go Go.Proofs
noncomputable section
theorem Ar{σ:Type}{Dof:σ→DB}{doF:List Int→σ→σ}{n:Nat}{r:aE}{k:Nat}{Q:σ→Prop}(hQ:∀ vs s,vs.length=k→ir n vs=true→Q s→Q (doF vs s)):∀ (m v:Nat) (vs:List Int) (s:σ),vs.length=k→ir n vs=true→Q s →
  ((gh Dof doF n r m v vs s).1.length=k∧ir n (gh Dof doF n r m v vs s).1=true)∧Q (gh Dof doF n r m v vs s).2
 |0,v,vs,s,h1,h2,h3=>⟨⟨h1,h2⟩,hQ vs s h1 h2 h3⟩
 |m+1,v,vs,s,h1,h2,h3=>by
  refine fq (P:=fun (a:List Int×σ)=>(a.1.length=k∧ir n a.1=true)∧Q a.2) ⟨⟨h1,h2⟩,h3⟩ fun a x hx ha=>?_
  have hxn:=List.mem_range.1 hx
  have h3:(a.1.set v (x:Int)).length=k:=by rw [List.length_set];exact ha.1.1
  have h4:=oM ha.1.2 v hxn
  unfold jy
  split
  ·exact Ar hQ m (v+1) _ _ h3 h4 ha.2
  ·exact ⟨⟨h3,h4⟩,ha.2⟩
theorem oN{σ:Type}{Dof:σ→DB}{doF:List Int→σ→σ}{n:Nat}{r:aE}{k:Nat}{Q:σ→Prop}(n1:1≤n)(hQ:∀ vs s,vs.length=k→ir n vs=true→Q s→Q (doF vs s)){s:σ}(hs:Q s):Q (uH Dof doF n r k s):=by
 unfold uH
 split
 ·exact (Ar hQ k 0 _ _ List.length_replicate (yI n1 k) hs).2
 ·exact hs
structure uI where
 i:Int
 r:aE
 hd:Sl Int
 cs:Sl (Sl Int)
 ls:Sl Int
def qE(p:uI):List AV:=bU p.i p.r (varsOf p.r).length (aq encI 1 p.hd) (aq eN 1 p.cs) (aq encI 1 p.ls)
theorem Ce(p:uI):(qE p).length=8:=rfl
theorem Cf(p:uI):bN (qE p)=true:=vT _ _ _ _ _ _
structure uI.ok (p:uI):Prop where
 lB:p.r.lB
 k12:(varsOf p.r).length≤12
 hd:p.hd.l=iH (varsOf p.r) p.r.args.l
 cs:p.cs.l.map Sl.l=p.r.body.l.map (fun c=>iH (varsOf p.r) c.args.l)
 ls:p.ls.l=p.r.body.l.map (fun c=>gC (placesOf (varsOf p.r) c.args.l))
def jm(n:Nat)(r:aE)(s:DB×Bool):DB×Bool:=uH (fun s=>s.1) (pN n r) n r (varsOf r).length s
def j8(n:Nat)(rs:List aE)(s:DB×Bool):DB×Bool:=rs.foldl (fun s r=>jm n r s) s
theorem F9{n:Nat}{rs:List aE}{i:Nat}{r:aE}(hr:rs[i]?=some r)(s:DB×Bool):j8 n (rs.take (i+1)) s=jm n r (j8 n (rs.take i) s):=by
 unfold j8;rw [List.take_add_one,hr];simp
inductive Reach (n:Nat) (rs:List aE) (D0:DB):DB→Prop
 |refl:Reach n rs D0 D0
 |step (D:DB):Reach n rs D0 D→Reach n rs D0 (j8 n rs (D,false)).1
theorem yJ:∀ (l:List Bool) (i:Nat),l[i]?=some false→(l.set i true).count false<l.count false
 |[],i,h=>by simp at h
 |b :: l,0,h=>by
  simp only [List.getElem?_cons_zero,Option.some.injEq] at h
  subst h;simp
 |b :: l,i+1,h=>by
  rw [List.getElem?_cons_succ] at h
  have:=yJ l i h
  rw [List.set_cons_succ,List.count_cons,List.count_cons];omega
def ND(D:DB)(nm:bG):Nat:=match D nm with|none=>0|some p=>p.2.count false
def As(names:List bG)(D:DB):Nat:=(names.map (ND D)).sum
structure EL (names:List bG) (D0 D:DB) (s:DB×Bool):Prop where
 Ir:eo s.1 D0
 le:As names s.1≤As names D
 lt:s.2=true→As names s.1<As names D
 same:s.2=false→s.1=D
theorem JP{names:List bG}{D0 D:DB}{n:Nat}{r:aE}{k:Nat}(hin:r.name ∈ names)(hk:k=(varsOf r).length)(hh:∃ p,D0 r.name=some p∧p.2.length=n ^ r.args.l.length){vs:List Int}{s:DB×Bool}(hvl:vs.length=k)(hvs:ir n vs=true)(q:EL names D0 D s):EL names D0 D (pN n r vs s):=by
 obtain ⟨p0,hp0,hl0⟩:=hh
 obtain ⟨p,hp,_,hl⟩:=q.Ir.get hp0
 have hpl:∀ p ∈ placesOf (varsOf r) r.args.l,p<vs.length:=by rw [hvl,hk];exact jO kI
 have hplen:(placesOf (varsOf r) r.args.l).length=r.args.l.length:=by unfold placesOf;simp
 have hrk:iL n (bM vs (placesOf (varsOf r) r.args.l))<p.2.length:=by
  have:=mH (kJ hvs hpl)
  rw [jH,hplen] at this
  omega
 have hdo:pN n r vs s=if p.2.getD (iL n (bM vs (placesOf (varsOf r) r.args.l))) false=true then s else (jw s.1 r.name p.1 (p.2.set (iL n (bM vs (placesOf (varsOf r) r.args.l))) true),true):=by unfold pN;rw [hp]
 rw [hdo]
 generalize iL n (bM vs (placesOf (varsOf r) r.args.l))=rk at hrk ⊢
 split
 ·exact q
 ·rename_i hb
  have hbit:p.2[rk]?=some false:=by
   rw [List.getD_eq_getElem?_getD,List.getElem?_eq_getElem hrk] at hb
   rw [List.getElem?_eq_getElem hrk]
   simp only [Option.getD_some,Bool.not_eq_true] at hb
   rw [hb]
  have hlt:As names (jw s.1 r.name p.1 (p.2.set rk true))<As names s.1:=by
   refine Lev.Fm (fun nm=>?_) (t:=r.name) ?_ hin
   ·unfold ND jw
    by_cases e:nm=r.name
    ·subst e;rw [if_pos rfl,hp];exact Nat.le_of_lt (yJ _ _ hbit)
    ·rw [if_neg e];exact Nat.le_refl _
   ·unfold ND jw
    rw [if_pos rfl,hp];exact yJ _ _ hbit
  have:=q.le
  exact ⟨q.Ir.set hp (by simp),by show As names (jw s.1 r.name p.1 (p.2.set rk true))≤_;omega,fun _=>by show As names (jw s.1 r.name p.1 (p.2.set rk true))<_;omega,fun h=>by cases h⟩
theorem EM{names:List bG}{D0 D:DB}{n:Nat}{r:aE}(n1:1≤n)(hin:r.name ∈ names)(hh:∃ p,D0 r.name=some p∧p.2.length=n ^ r.args.l.length){s:DB×Bool}(q:EL names D0 D s):EL names D0 D (jm n r s):=
 oN n1 (fun vs s h1 h2 h3=>JP hin rfl hh h1 h2 h3) q
end
end Go.AM
namespace Go.AM
open Go Go.Proofs
noncomputable section
theorem xe(nm:bG)(xs:List bG):kq nm xs=(dX nm&&j6 xs):=by
 unfold kq j6;rw [Bool.and_comm (xs.all dX)]
def iB(r:aE):Bool:=dX r.name&&(j6 r.args.l&&(decide (r.body.l.length≤20)&&(r.body.l.all fQ&&decide ((varsOf r).length≤12))))
theorem cz{r:aE}(hok:r.ok)(hf:r.lB){h:ag}{K:Out→ag→Bool}(hK:K (.ret (.bool (iB r))) h=true) :
  Sem Tryz.prog 84 [.agg [.str r.name,aq encS 1 r.args,aq bY 4 r.body]] h K:=by
 refine Sem.data (r:=.bool (iB r)) ?_ (by have:=eM r;simpa [aM,AV.pureL,AV.pure] using this) hK
 clear hK
 have hbb:r.body.l.length≤cy:=hok.2.2.2.1
 refine F.zK ?_
 have g0:(ag.alloc ag.empty (.cells (aM r))).get 0=some (.cells (aM r)):=aB _ _
 have gn:(ag.alloc ag.empty (.cells (aM r))).next=1:=rfl
 have hb:cK (.agg [.str r.name,aq encS 1 r.args,aq bY 4 r.body])=some (aM r):=cU (iz r)
 simp only [hb,bindO_some,bT]
 generalize (ag.alloc ag.empty (.cells (aM r)))=H at g0 gn ⊢
 have fin:∀ (b:Bool) h',b=iB r→mR (.bool (iB r)) (.ret (.bool b)) h'=true:=fun b h' hb=>by rw [hb];exact fm rfl
 generalize mR (.bool (iB r))=R at fin ⊢
 simp only [aU,Nat.reduceAdd,Nat.reduceEqDiff,reduceIte,ak g0,aM]
 refine an (dK ?_)
 simp only [aU,Nat.reduceAdd,Nat.reduceEqDiff,reduceIte]
 cases hn:dX r.name with
 |false=>simp only [Bool.not_false,aJ];exact fin _ _ (by simp [iB,hn])
 |true=>
 simp only [Bool.not_true,aG,aU,Nat.reduceAdd,Nat.reduceEqDiff,reduceIte,ak g0,aM]
 refine an (dr hok.2.1 ?_)
 simp only [aU,Nat.reduceAdd,Nat.reduceEqDiff,reduceIte]
 cases hnd:j6 r.args.l with
 |false=>simp only [Bool.not_false,aJ];exact fin _ _ (by simp [iB,hnd])
 |true=>
 simp only [Bool.not_true,aG,aU,Nat.reduceAdd,Nat.reduceEqDiff,reduceIte,ak g0,aM]
 by_cases h20:20<r.body.l.length
 ·simp only [decide_eq_true (by omega:(20:Int)<(r.body.l.length:Int)),aJ]
  exact fin _ _ (by simp [iB,show ¬ r.body.l.length≤20 by omega])
 simp only [decide_eq_false (by omega:¬ (20:Int)<(r.body.l.length:Int)),aG]
 have h20':r.body.l.length≤20:=by omega
 refine aC 0 r.body.l.length (Nat.zero_le _) (fun i e h'=>bJ H h'∧e 1 = .ptr 0 0∧e 3 = .int .i64 (i:Int)∧(r.body.l.take i).all fQ=true) ⟨bJ.refl _,rfl,rfl,rfl⟩ ?_ ?_
 ·rintro i e h' _ hi ⟨x1,e1,e3,ht⟩ K' hnn hx hr hp
  have hv:r.body.l[i]?=some r.body.l[i]:=List.getElem?_eq_getElem hi
  generalize r.body.l[i]=c at hv
  have hcok:=hok.2.2.2.2 c (List.mem_of_getElem? hv)
  have q0:h'.get 0=some (.cells (aM r)):=by rw [x1.get 0 (by omega)];exact g0
  obtain ⟨H2,hs2,k1,ko,kn⟩:=cP (h:=h') (zs:=[.int .i64 0,.bool false,.str [],.nils]) (cs:=bY c) (n:=4) rfl rfl (gN c)
  have x2:bJ H H2:=x1.trans ⟨by omega,fun b hb=>ko b (by omega)⟩
  have no:fQ c=false→∀ h',R (.ret (.bool false)) h'=true:=fun hc h'=>fin _ _ (by simp [iB,all_false hv hc])
  rw [F.cz.aO]
  simp only [e1,e3,aU,Nat.reduceAdd,Nat.reduceEqDiff,reduceIte,ak q0,aM,bg hi,aW r.body hi,dN gL hv,hs2]
  simp only [aU,Nat.reduceAdd,Nat.reduceEqDiff,reduceIte,ak k1,bY,cQ]
  by_cases k0:c.kind=0
  ·have hco:fQ c=(dX c.name&&j6 c.args.l):=by unfold fQ;rw [if_pos k0,xe]
   simp only [decide_eq_true k0,aJ,aU,Nat.reduceAdd,Nat.reduceEqDiff,reduceIte,ak k1,bY]
   refine an (dK ?_)
   simp only [aU,Nat.reduceAdd,Nat.reduceEqDiff,reduceIte]
   cases n1:dX c.name with
   |false=>
    simp only [Bool.not_false,aJ]
    rw [hr,F.cz.bt]
    exact no (by rw [hco,n1];rfl) _
   |true=>
   simp only [Bool.not_true,aG,aU,Nat.reduceAdd,Nat.reduceEqDiff,reduceIte,ak k1,bY]
   refine an (dr hcok.2.1 ?_)
   simp only [aU,Nat.reduceAdd,Nat.reduceEqDiff,reduceIte]
   cases n2:j6 c.args.l with
   |false=>
    simp only [Bool.not_false,aJ]
    rw [hr,F.cz.bt]
    exact no (by rw [hco,n2,Bool.and_false]) _
   |true=>
   simp only [Bool.not_true,aG,aI hi hbb,bindO_some]
   exact hnn _ _ ⟨x2,e1,rfl,gJ hv ht (by rw [hco,n1,n2];rfl)⟩
  simp only [decide_eq_false k0,aG]
  have J:∀ (e:Env) (b:Bool),e 1 = .ptr 0 0→e 3 = .int .i64 (i:Int)→e 4 = .ptr h'.next 0→e 44 = .bool b→(b=true↔(c.kind=1∨c.kind=2))→F.cz.J0 K' ⟨e,67,[],H2⟩=true:=by
   intro e b e1 e3 e4 e44 hb
   rw [F.cz.zJ]
   simp only [e4,e44,aU,Nat.reduceAdd,Nat.reduceEqDiff,reduceIte]
   cases b with
   |false=>
    simp only [aG]
    have:¬ (c.kind=1∨c.kind=2):=fun h=>by have:=hb.2 h;cases this
    rw [hr,F.cz.bt]
    exact no (by unfold fQ;rw [if_neg k0,if_neg this]) _
   |true=>
    have hk:=hb.1 rfl
    have hc1:fQ c=(decide (c.name = [])&&(decide (c.args.l.length=2)&&c.args.l.all dX)):=by simp only [fQ,if_neg k0,if_pos hk]
    simp only [aJ,aU,Nat.reduceAdd,Nat.reduceEqDiff,reduceIte,ak k1,bY,m6]
    by_cases hn:c.name = []
    ·simp only [decide_eq_true hn,Bool.not_true,aG,aU,Nat.reduceAdd,Nat.reduceEqDiff,reduceIte,ak k1,bY,cQ]
     by_cases h2:c.args.l.length=2
     ·simp only [decide_eq_true (by omega:(c.args.l.length:Int)=2),Bool.not_true,aG,aU,Nat.reduceAdd,Nat.reduceEqDiff,reduceIte,ak k1,bY]
      refine an (dr hcok.2.1 ?_)
      simp only [aU,Nat.reduceAdd,Nat.reduceEqDiff,reduceIte]
      have hnm:j6 c.args.l=c.args.l.all dX:=by unfold j6;rw [decide_eq_true (by omega:c.args.l.length≤12),Bool.and_true]
      rw [hnm]
      cases n2:c.args.l.all dX with
      |false=>
       simp only [Bool.not_false,aJ]
       rw [hr,F.cz.bt]
       exact no (by rw [hc1,n2,Bool.and_false,Bool.and_false]) _
      |true=>
       simp only [Bool.not_true,aG,e3,aI hi hbb,bindO_some]
       exact hnn _ _ ⟨x2,e1,rfl,gJ hv ht (by rw [hc1,n2];simp [hn,h2])⟩
     ·simp only [decide_eq_false (by omega:¬ (c.args.l.length:Int)=2),Bool.not_false,aJ]
      rw [hr,F.cz.bt]
      exact no (by rw [hc1];simp [h2]) _
    ·simp only [decide_eq_false hn,Bool.not_false,aJ]
     rw [hr,F.cz.bt]
     exact no (by rw [hc1];simp [hn]) _
  by_cases k1':c.kind=1
  ·simp only [decide_eq_true k1',aJ]
   exact J _ true e1 e3 rfl rfl (by simp [k1'])
  ·simp only [decide_eq_false k1',aG]
   exact J _ (decide (c.kind=2)) e1 e3 rfl rfl (by simp [k1'])
 ·rintro e h' ⟨x1,e1,e3,ht⟩ K' hx
  have q0:h'.get 0=some (.cells (aM r)):=by rw [x1.get 0 (by omega)];exact g0
  rw [F.cz.aO]
  simp only [e1,e3,aU,Nat.reduceAdd,Nat.reduceEqDiff,reduceIte,ak q0,aM,aR]
  rw [hx,F.cz.aD]
  simp only [e1,aU,Nat.reduceAdd,Nat.reduceEqDiff,reduceIte,ak q0,aM,lX]
  refine an (bE hf fun x hx1=>?_)
  simp only [aU,Nat.reduceAdd,Nat.reduceEqDiff,reduceIte,hx1]
  rw [List.take_of_length_le (Nat.le_refl _)] at ht
  refine fin _ _ ?_
  unfold iB
  rw [hn,hnd,decide_eq_true h20',ht]
  by_cases h12:(varsOf r).length≤12
  ·rw [decide_eq_true h12,decide_eq_true (by omega:((varsOf r).length:Int)≤12)];rfl
  ·rw [decide_eq_false h12,decide_eq_false (by omega:¬ ((varsOf r).length:Int)≤12)];rfl
def dW(cs:List eX):List (bG×Int):=(cs.filter fun c=>decide (c.kind=0)).map fun c=>(c.name,(c.args.l.length:Int))
def tq(r:aE):List (bG×Int):=(r.name,(r.args.l.length:Int)) :: dW r.body.l
def cA(rs:List aE):List (bG×Int):=rs.flatMap tq
theorem Au{cs:List eX}{j:Nat}{c:eX}(hc:cs[j]?=some c):dW (cs.take (j+1))=dW (cs.take j)++if c.kind=0 then [(c.name,(c.args.l.length:Int))] else []:=by
 unfold dW;rw [List.take_add_one,hc,Option.toList_some,List.filter_append,List.map_append]
 by_cases h:c.kind=0<;>simp [h]
theorem nt(cs:List eX):(dW cs).length≤cs.length:=by
 unfold dW;rw [List.length_map];exact List.length_filter_le _ _
theorem qF:∀ rs:List aE,(∀ r ∈ rs,r.body.l.length≤20)→(cA rs).length≤rs.length*21
 |[],_=>Nat.le_refl _
 |r :: rs,h=>by
  have h1:=qF rs fun q hq=>h q (List.mem_cons_of_mem _ hq)
  have h2:=nt r.body.l
  have h3:=h r List.mem_cons_self
  show (tq r++cA rs).length≤_
  unfold tq
  rw [List.length_append,List.length_cons,List.length_cons];omega
theorem cu{rules:Sl aE}(h60:rules.l.length≤60)(h20:∀ r ∈ rules.l,r.body.l.length≤20){h:ag}{K:Out→ag→Bool}(hK:∀ x:Sl (bG×Int),x.l=cA rules.l→K (.ret (aq lG 2 x)) h=true) :
  Sem Tryz.prog 85 [aq aM 3 rules] h K:=by
 have hbig:rules.l.length≤cy:=by unfold cy;omega
 have hmx:cX=140737488355328:=rfl
 have main:Sem Tryz.prog 85 [aq aM 3 rules] ag.empty (fun o h'=>yes (∃ v,∃ x:Sl (bG×Int),o = .ret v∧x.l=cA rules.l∧Fz true h' v (aq lG 2 x))):=by
  refine F.xI ?_
  refine aC 0 rules.l.length (Nat.zero_le _) (fun i e h'=>∃ a,Own lG 2 0 h' a (cA (rules.l.take i))∧e 0=aq aM 3 rules∧e 3=a∧e 4 = .int .i64 (i:Int)) ⟨.nils,.nil,rfl,rfl,rfl⟩ ?_ ?_
  ·rintro i e h' _ hi ⟨a,o,e0,e3,e4⟩ K' hn hx hr hp
   have hv:rules.l[i]?=some rules.l[i]:=List.getElem?_eq_getElem hi
   generalize rules.l[i]=r at hv
   have hb20:=h20 r (List.mem_of_getElem? hv)
   have hbb:r.body.l.length≤cy:=by unfold cy;omega
   have ld:∀ j,j<3→∀ h,ai none (.iptr (rules.l.flatMap aM) (i*3+j)) h=(aM r)[j]?:=fun j hj h=>fh fK hv hj
   have ld0:∀ h,ai none (.iptr (rules.l.flatMap aM) (i*3)) h=some (.str r.name):=fun h=>ld 0 (by omega) h
   have hal:(cA (rules.l.take i)).length≤1260:=by
    have h1:=qF (rules.l.take i) fun q hq=>h20 q (List.mem_of_mem_take hq)
    have h2:=List.length_take_le i rules.l
    omega
   obtain ⟨a1,h1,p1,p2,p3,p4,p5,p6⟩:=o.push mE (fun x=>rfl) (Nat.zero_le _) (bytes:=24) (by omega) (r.name,(r.args.l.length:Int))
   rw [F.cu.aO]
   simp only [e0,e3,e4,aU,Nat.reduceAdd,Nat.reduceEqDiff,reduceIte,bg hi,aW rules hi,ld0,ld 1 (by omega),aM,Jy,Jz,p1]
   refine aC 0 r.body.l.length (Nat.zero_le _) (fun j e h2=>∃ a,Own lG 2 0 h2 a (cA (rules.l.take i)++(r.name,(r.args.l.length:Int)) :: dW (r.body.l.take j))∧e 0=aq aM 3 rules∧e 3=a∧e 4 = .int .i64 (i:Int)∧e 5 = .int .i64 (j:Int))
    ⟨a1,by simpa [dW] using p2,e0,rfl,e4,rfl⟩ ?_ ?_
   ·rintro j e h2 _ hj ⟨a,o,e0,e3,e4,e5⟩ K2 hn2 hx2 hr2 hp2
    have hc:r.body.l[j]?=some r.body.l[j]:=List.getElem?_eq_getElem hj
    generalize r.body.l[j]=c at hc
    obtain ⟨H2,hs2,k1,ko,kn⟩:=cP (h:=h2) (zs:=[.int .i64 0,.bool false,.str [],.nils]) (cs:=bY c) (n:=4) rfl rfl (gN c)
    have x2:bJ h2 H2:=⟨by omega,fun b hb=>ko b (by omega)⟩
    have hst:=Au hc
    rw [F.cu.dx]
    simp only [e0,e3,e4,e5,aU,Nat.reduceAdd,Nat.reduceEqDiff,reduceIte,aW rules hi,ld 2 (by omega),aM,bg hj,aW r.body hj,dN gL hc,hs2]
    simp only [aU,Nat.reduceAdd,Nat.reduceEqDiff,reduceIte,ak k1,bY,cQ]
    by_cases k0:c.kind=0
    ·rw [if_pos k0] at hst
     have hcl:(dW (r.body.l.take j)).length≤20:=by
      have h1:=nt (r.body.l.take j)
      have h2:=List.length_take_le' j r.body.l
      omega
     obtain ⟨a2,h3,s1,s2,s3,s4,s5,s6⟩:=(o.ext x2).push mE (fun x=>rfl) (Nat.zero_le _) (bytes:=24) (by rw [List.length_append,List.length_cons];omega) (c.name,(c.args.l.length:Int))
     simp only [decide_eq_true k0,aJ,aU,Nat.reduceAdd,Nat.reduceEqDiff,reduceIte,ak k1,bY,Jy,Jz,s1,aI hj hbb]
     refine hn2 _ _ ⟨a2,?_,e0,rfl,e4,rfl⟩
     rw [hst];simpa using s2
    ·rw [if_neg k0,List.append_nil] at hst
     simp only [decide_eq_false k0,aG,aI hj hbb,bindO_some]
     exact hn2 _ _ ⟨a,by rw [hst];exact o.ext x2,e0,e3,e4,rfl⟩
   ·rintro e h2 ⟨a,o,e0,e3,e4,e5⟩ K2 hx2
    rw [F.cu.dx]
    simp only [e0,e4,e5,aU,Nat.reduceAdd,Nat.reduceEqDiff,reduceIte,aW rules hi,ld 2 (by omega),aM,aR]
    rw [hx2,F.cu.cw]
    simp only [e4,aU,Nat.reduceAdd,Nat.reduceEqDiff,reduceIte,aI hi hbig]
    refine hn _ _ ⟨a,?_,e0,e3,rfl⟩
    rw [List.take_of_length_le (Nat.le_refl _)] at o
    have:cA (rules.l.take (i+1))=cA (rules.l.take i)++(r.name,(r.args.l.length:Int)) :: dW r.body.l:=by
     unfold cA;rw [List.take_add_one,hv];simp [tq]
    rw [this];exact o
  ·rintro e h' ⟨a,o,e0,e3,e4⟩ K' hx
   rw [F.cu.aO]
   simp only [e0,e4,aU,Nat.reduceAdd,Nat.reduceEqDiff,reduceIte,aR]
   rw [hx,F.cu.aD]
   rw [List.take_of_length_le (Nat.le_refl _)] at o
   simp only [bH,Nat.reduceEqDiff,reduceIte,e3]
   obtain ⟨x,hx1,hx2⟩:=o.FX (fun v y hy=>by
    simp only [lG,List.mem_cons,List.not_mem_nil,or_false] at hy
    rcases hy with rfl|rfl<;>exact .scalar _ rfl)
   exact cD.2 ⟨a,x,rfl,hx1,hx2⟩
 refine main.frozen (by simp [AV.pureL,b8 eM]) fun o h' ho=>?_
 obtain ⟨v,x,rfl,hx,hf⟩:=cD.1 ho
 exact ⟨v,_,rfl,hf,hK x hx⟩
end
end Go.AM
namespace Go.AM
open Go Go.Proofs
noncomputable section
theorem xg{f:St→(AX→St→Bool)→Bool}{K:AX→St→Bool}{n:Nat}{defs:List lN}{e0:Env}{h0:ag}(I:Nat→Env→ag→Prop)(m:Nat)(hI:I m e0 h0)
  (step:∀ m e h,I m e h→∀ K':AX→St→Bool,(∀ m' e' h',m'<m→I m' e' h'→K' .normal ⟨e',n,defs,h'⟩=true)→(∀ id s,K' (.exit id) s=K (.exit id) s)→(∀ s,K' .ret s=K .ret s)→f ⟨e,n,defs,h⟩ K'=true):aT f ⟨e0,n,defs,h0⟩ K=true:=
 iS I m hI fun m e h hi=>step m e h hi _ (fun m' e' h' hlt hi'=>oq (I:=I) m' hlt hi') (fun _ _=>rfl) (fun _=>rfl)
theorem tr:∀ (l:List bG) (s:bG),(eF l s).length≤l.length+1
 |[],s=>Nat.le_refl _
 |x :: l,s=>by
  have:=tr l s
  rw [eF]
  split
  ·rw [List.length_cons,List.length_cons];omega
  ·split
   ·omega
   ·simp
def cO(rs:List aE):List bG:=rs.foldl (fun o r=>eF o r.name) []
theorem H9{rs:List aE}{i:Nat}{r:aE}(hr:rs[i]?=some r):cO (rs.take (i+1))=eF (cO (rs.take i)) r.name:=by
 unfold cO;rw [List.take_add_one,hr];simp
theorem pg:∀ (rs:List aE) (o:List bG),(rs.foldl (fun o r=>eF o r.name) o).length≤o.length+rs.length
 |[],o=>Nat.le_refl _
 |r :: rs,o=>by
  have h1:=pg rs (eF o r.name)
  have h2:=tr o r.name
  rw [List.foldl_cons,List.length_cons];omega
theorem j9(rs:List aE):(cO rs).length≤rs.length:=by
 have:=pg rs [];simpa [cO] using this
theorem mK:∀ (rs:List aE) (o:List bG),pe o→pe (rs.foldl (fun o r=>eF o r.name) o)
 |[],o,h=>h
 |r :: rs,o,h=>mK rs _ (si h r.name)
theorem lf(rs:List aE):pe (cO rs):=mK rs [] List.Pairwise.nil
theorem pq{s:bG}:∀ (rs:List aE) (o:List bG),s ∈ rs.foldl (fun o r=>eF o r.name) o↔s ∈ o∨s ∈ bC rs
 |[],o=>by simp [bC]
 |r :: rs,o=>by
  rw [List.foldl_cons,pq rs,oK]
  simp [bC,or_assoc]
theorem dQ{s:bG}(rs:List aE):s ∈ cO rs↔s ∈ bC rs:=by
 have:=pq (s:=s) rs [];simpa [cO] using this
theorem qG{l:List bG}(h:pe l):l.Nodup:=by
 unfold pe at h;unfold List.Nodup
 exact h.imp fun {a b} hab e=>by subst e;rw [l7] at hab;cases hab
theorem cL{rules:Sl aE}(h60:rules.l.length≤60){h:ag}{K:Out→ag→Bool}(hK:∀ x:Sl bG,x.l=cO rules.l→K (.ret (aq encS 1 x)) h=true) :
  Sem Tryz.prog 34 [aq aM 3 rules] h K:=by
 have hbig:rules.l.length≤cy:=by unfold cy;omega
 have main:Sem Tryz.prog 34 [aq aM 3 rules] ag.empty (fun o h'=>yes (∃ v,∃ x:Sl bG,o = .ret v∧x.l=cO rules.l∧Fz true h' v (aq encS 1 x))):=by
  refine F.uj ?_
  refine aC 0 rules.l.length (Nat.zero_le _) (fun i e h'=>∃ a,Own encS 1 0 h' a (cO (rules.l.take i))∧e 0=aq aM 3 rules∧e 3=a∧e 4 = .int .i64 (i:Int)) ⟨.nils,.nil,rfl,rfl,rfl⟩ ?_ ?_
  ·rintro i e h' _ hi ⟨a,o,e0,e3,e4⟩ K' hn hx hr hp
   have hv:rules.l[i]?=some rules.l[i]:=List.getElem?_eq_getElem hi
   generalize rules.l[i]=r at hv
   have ld:∀ h,ai none (.iptr (rules.l.flatMap aM) (i*3)) h=some (.str r.name):=fun h=>fh fK hv (by omega:0<3)
   have hst:=H9 hv
   rw [F.cL.aO]
   simp only [e0,e3,e4,aU,Nat.reduceAdd,Nat.reduceEqDiff,reduceIte,bg hi,aW rules hi,ld]
   refine an (dF o (Nat.zero_le _) (by have h1:=j9 (rules.l.take i);have h2:=List.length_take_le i rules.l;omega) fun a1 h1 x1 o1=>?_)
   simp only [aU,Nat.reduceAdd,Nat.reduceEqDiff,reduceIte,aI hi hbig]
   exact hn _ _ ⟨a1,by rw [hst];exact o1,e0,rfl,rfl⟩
  ·rintro e h' ⟨a,o,e0,e3,e4⟩ K' hx
   rw [F.cL.aO]
   simp only [e0,e4,aU,Nat.reduceAdd,Nat.reduceEqDiff,reduceIte,aR]
   rw [hx,F.cL.aD]
   rw [List.take_of_length_le (Nat.le_refl _)] at o
   simp only [bH,Nat.reduceEqDiff,reduceIte,e3]
   obtain ⟨x,hx1,hx2⟩:=o.FX (fun v y hy=>by
    simp only [encS,List.mem_cons,List.not_mem_nil,or_false] at hy
    subst hy;exact .scalar _ rfl)
   exact cD.2 ⟨a,x,rfl,hx1,hx2⟩
 refine main.frozen (by simp [AV.pureL,b8 eM]) fun o h' ho=>?_
 obtain ⟨v,x,rfl,hx,hf⟩:=cD.1 ho
 exact ⟨v,_,rfl,hf,hK x hx⟩
theorem dm{x:Sl bG}{s:bG}(hx:x.l.length≤cy){h:ag}{K:Out→ag→Bool}(hyes:∀ i:Nat,x.l[i]?=some s→K (.ret (.int .i64 (i:Int))) h=true)(hno:s ∉ x.l→K (.ret (.int .i64 (-1))) h=true):Sem Tryz.prog 58 [aq encS 1 x,.str s] h K:=by
 refine F.xG ?_
 refine aC 0 x.l.length (Nat.zero_le _) (fun i e h'=>h'=h∧e 0=aq encS 1 x∧e 1 = .str s∧e 5 = .int .i64 (i:Int)∧s ∉ x.l.take i) ⟨rfl,rfl,rfl,rfl,by simp⟩ ?_ ?_
 ·rintro i e h' _ hi ⟨rfl,e0,e1,e5,ht⟩ K' hn hx' hr hp
  have hv:x.l[i]?=some x.l[i]:=List.getElem?_eq_getElem hi
  generalize x.l[i]=t at hv
  rw [F.dm.aO]
  simp only [e0,e1,e5,aU,Nat.reduceAdd,Nat.reduceEqDiff,reduceIte,bg hi,aW x hi,gO hv,m6]
  by_cases hq:t=s
  ·subst hq
   simp only [decide_true,aJ]
   rw [hr,F.dm.bt]
   exact hyes i hv
  ·simp only [decide_eq_false hq,aG,aI hi hx,bindO_some]
   refine hn _ _ ⟨rfl,e0,e1,rfl,?_⟩
   rw [List.take_add_one,hv]
   simp only [Option.toList_some,List.mem_append,List.mem_singleton]
   exact fun h=>h.elim ht fun h=>hq h.symm
 ·rintro e h' ⟨rfl,e0,e1,e5,ht⟩ K' hx'
  rw [F.dm.aO]
  simp only [e0,e5,aU,Nat.reduceAdd,Nat.reduceEqDiff,reduceIte,aR]
  rw [hx',F.dm.aD]
  rw [List.take_of_length_le (Nat.le_refl _)] at ht
  exact hno ht
end
end Go.AM