/- Parts of a proof, merged out of smaller texts: the abstract machine and what functions do. Conditions: none. -/
import Derived.Test.YtmkffehchicgaaaGreatSo1
import Derived.Test.YtmkffehchicgaaaGreatSo9
import Derived.Test.YtmkffehchicgaaaGreatSo13
import Derived.Test.YtmkffehchicgaaaGreatSo14
set_option linter.unusedSimpArgs false
set_option linter.unusedVariables false
namespace Go.AM
open Go Go.Proofs
noncomputable section
def jY(n:Int):Bool:=(decide (97≤n)&&decide (n≤122))||(decide (65≤n)&&decide (n≤90))
def rW(n:Int):Bool:=decide (48≤n)&&decide (n≤57)
def words:List bA:=[[97,110,100],[111,114],[110,111,116],[115,111,109,101],[97,108,108],[108,102,112],[112,102,112],[116,99],[101,120,105,115,116,115],[116,114,117,101],[102,97,108,115,101]]
def yJ(s:bA):Bool:=words.any fun w=>s==w
theorem tC{n:Int}{h:af}{K:Out→af→Bool}(hK:K (.ret (.bool (jY n))) h=true):Sem Tryz.prog 163 [.int .u8 n] h K:=by
 refine F.uq ?_
 rw [F.vN]
 simp only [nx,sY,bindO_some,condB_bool]
 unfold jY at hK
 by_cases h1:97≤n<;>by_cases h2:n≤122<;>by_cases h3:65≤n<;>by_cases h4:n≤90<;>simpa [h1,h2,h3,h4] using hK
theorem CY{n:Int}{h:af}{K:Out→af→Bool}(hK:K (.ret (.bool (rW n))) h=true):Sem Tryz.prog 165 [.int .u8 n] h K:=by
 refine F.vO ?_
 rw [F.ya]
 simp only [nx,sY,bindO_some,condB_bool]
 unfold rW at hK
 by_cases h1:48≤n<;>by_cases h2:n≤57<;>simpa [h1,h2] using hK
theorem tD{n:Int}{h:af}{K:Out→af→Bool}(hK:K (.ret (.bool (jY n))) h=true):Sem Tryz.prog 170 [.int .u8 n] h K:=by
 refine F.ur ?_
 rw [F.vQ]
 simp only [nx,sY,bindO_some,condB_bool]
 unfold jY at hK
 by_cases h1:97≤n<;>by_cases h2:n≤122<;>by_cases h3:65≤n<;>by_cases h4:n≤90<;>simpa [h1,h2,h3,h4] using hK
theorem CZ{n:Int}{h:af}{K:Out→af→Bool}(hK:K (.ret (.bool (rW n))) h=true):Sem Tryz.prog 172 [.int .u8 n] h K:=by
 refine F.vR ?_
 rw [F.yc]
 simp only [nx,sY,bindO_some,condB_bool]
 unfold rW at hK
 by_cases h1:48≤n<;>by_cases h2:n≤57<;>simpa [h1,h2] using hK
theorem Ew{s:bA}{h:af}{K:Out→af→Bool}(hK:K (.ret (.bool (yJ s))) h=true):Sem Tryz.prog 164 [.str s] h K:=by
 refine F.xZ ?_
 rw [F.zM]
 simp only [xR,bindO_some,condB_bool]
 simp only [yJ,words,List.any_cons,List.any_nil,Bool.or_false] at hK
 repeat (first|exact hK|(generalize (s==_)=b at hK ⊢;cases b<;>simp only [aD,aC,Bool.true_or,Bool.false_or] at hK ⊢<;>try exact hK))
theorem Ey{s:bA}{h:af}{K:Out→af→Bool}(hK:K (.ret (.bool (yJ s))) h=true):Sem Tryz.prog 171 [.str s] h K:=by
 refine F.yb ?_
 rw [F.zN]
 simp only [xR,bindO_some,condB_bool]
 simp only [yJ,words,List.any_cons,List.any_nil,Bool.or_false] at hK
 repeat (first|exact hK|(generalize (s==_)=b at hK ⊢;cases b<;>simp only [aD,aC,Bool.true_or,Bool.false_or] at hK ⊢<;>try exact hK))
def okB(b:UInt8):Bool:=jY b.toNat||rW b.toNat
def dB(s:bA):Bool:=match s with
 |[]=>false
 |c :: _=>decide (s.length≤12)&&(jY c.toNat&&(!yJ s&&s.all okB))
theorem gz{α:Type}{p:α→Bool}{l:List α}{i:Nat}{a:α}(ha:l[i]?=some a)(ht:(l.take i).all p=true)(hp:p a=true):(l.take (i+1)).all p=true:=by
 rw [List.take_add_one,ha];simp [ht,hp]
theorem all_false{α:Type}{p:α→Bool}{l:List α}{i:Nat}{a:α}(ha:l[i]?=some a)(hp:p a=false):l.all p=false:=by
 rw [Bool.eq_false_iff]
 intro h
 rw [List.all_eq_true] at h
 have:=h a (List.mem_of_getElem? ha)
 rw [hp] at this;cases this
theorem dF{s:bA}{h:af}{K:Out→af→Bool}(hK:K (.ret (.bool (dB s))) h=true):Sem Tryz.prog 116 [.str s] h K:=by
 refine F.xX ?_
 rw [F.zK]
 cases s with
 |nil=>simpa [dB,kE,nw,ay,ag] using hK
 |cons c s'=>
  have h0:(c :: s')[0]?=some c:=rfl
  simp only [kE,nw,BI,bindO_some,condB_bool]
  have h1:decide (((c :: s').length:Int)<1)=false:=by simp;omega
  simp only [h1,aC]
  by_cases h2:(c :: s').length≤12
  ·have h3:decide ((12:Int)<((c :: s').length:Int))=false:=by simp at h2 ⊢;omega
   simp only [h3,aC]
   rw [show iU (.str (c :: s')) (.int .i64 0)=some (.int .u8 (c.toNat:Int)) from wY (i:=0) h0]
   simp only [bindO_some]
   refine an (tC ?_)
   simp only [outK_ret,lB,bindO_some,condB_bool]
   cases hl:jY c.toNat with
   |false=>simpa [dB,hl] using hK
   |true=>
    simp only [Bool.not_true,aC]
    refine an (Ew ?_)
    simp only [outK_ret,condB_bool]
    cases hw:yJ (c :: s') with
    |true=>simpa [dB,hl,hw] using hK
    |false=>
     simp only [aC]
     have hn:dB (c :: s')=(c :: s').all okB:=by simp only [dB,hl,hw,Bool.not_false,Bool.true_and];rw [decide_eq_true h2,Bool.true_and]
     rw [hn] at hK
     have h4:((c :: s').take 1).all okB=true:=by simp [okB,hl]
     have h5:1≤(c :: s').length:=by simp
     clear h0 h1 h3 hl hw hn
     generalize (c :: s')=s at hK h2 h4 h5 ⊢
     refine aE 1 s.length h5 (fun i e h'=>h'=h∧e 0 = .str s∧e 3 = .int .i64 (i:Int)∧(s.take i).all okB=true) ⟨rfl,rfl,rfl,h4⟩ ?_ ?_
     ·rintro i e h' _ hi ⟨rfl,e0,e3,ht⟩ K' hn hx hr hp
      have hb:s[i]?=some s[i]:=List.getElem?_eq_getElem hi
      have hlt:decide ((i:Int)<(s.length:Int))=true:=by simp;omega
      rw [F.dF.aP]
      simp only [e0,e3,kE,nw,wY hb,bindO_some,condB_bool,hlt,aD]
      refine an (tC ?_)
      simp only [outK_ret,lB,bindO_some,condB_bool]
      cases hl:jY s[i].toNat with
      |true=>
       simp only [Bool.not_true,aC,fJ (a:=(i:Int)) (b:=1) (by omega) (by omega),bindO_some]
       exact hn _ _ ⟨rfl,e0,rfl,gz hb ht (by simp [okB,hl])⟩
      |false=>
       simp only [Bool.not_false,aD]
       refine an (CY ?_)
       simp only [outK_ret,lB,bindO_some,condB_bool]
       cases hd:rW s[i].toNat with
       |true=>
        simp only [Bool.not_true,aC,fJ (a:=(i:Int)) (b:=1) (by omega) (by omega),bindO_some]
        exact hn _ _ ⟨rfl,e0,rfl,gz hb ht (by simp [okB,hd])⟩
       |false=>
        simp only [Bool.not_false,aD]
        rw [hr,F.dF.bp]
        have:s.all okB=false:=all_false hb (by simp [okB,hl,hd])
        rw [this] at hK;exact hK
     ·rintro e h' ⟨rfl,e0,e3,ht⟩ K' hx
      have hlt:decide ((s.length:Int)<(s.length:Int))=false:=by simp
      rw [F.dF.aP]
      simp only [e0,e3,kE,nw,bindO_some,condB_bool,hlt,aC]
      rw [hx,F.dF.aG]
      rw [List.take_of_length_le (Nat.le_refl _)] at ht
      rw [ht] at hK;exact hK
  ·have h3:decide ((12:Int)<((c :: s').length:Int))=true:=by simp at h2 ⊢;omega
   simp only [h3,aD]
   have:dB (c :: s')=false:=by simp only [dB];rw [decide_eq_false h2];rfl
   rw [this] at hK;exact hK
theorem di{s:bA}{h:af}{K:Out→af→Bool}(hK:K (.ret (.bool (dB s))) h=true):Sem Tryz.prog 135 [.str s] h K:=by
 refine F.xY ?_
 rw [F.zL]
 cases s with
 |nil=>simpa [dB,xR,ay,ag] using hK
 |cons c s'=>
  have h0:(c :: s')[0]?=some c:=rfl
  have h1:((c :: s')==([]:bA))=false:=rfl
  simp only [kE,xR,BI,bindO_some,condB_bool,h1,aC]
  by_cases h2:(c :: s').length≤12
  ·have h3:decide ((12:Int)<((c :: s').length:Int))=false:=by simp at h2 ⊢;omega
   simp only [h3,aC]
   rw [show iU (.str (c :: s')) (.int .i64 0)=some (.int .u8 (c.toNat:Int)) from wY (i:=0) h0]
   simp only [bindO_some]
   refine an (tD ?_)
   simp only [outK_ret,lB,bindO_some,condB_bool]
   cases hl:jY c.toNat with
   |false=>simpa [dB,hl] using hK
   |true=>
    simp only [Bool.not_true,aC]
    refine an (Ey ?_)
    simp only [outK_ret,condB_bool]
    cases hw:yJ (c :: s') with
    |true=>simpa [dB,hl,hw] using hK
    |false=>
     simp only [aC,kE,bindO_some]
     have hn:dB (c :: s')=(c :: s').all okB:=by simp only [dB,hl,hw,Bool.not_false,Bool.true_and];rw [decide_eq_true h2,Bool.true_and]
     rw [hn] at hK
     have h4:((c :: s').take 1).all okB=true:=by simp [okB,hl]
     have h5:1≤(c :: s').length:=by simp
     clear h0 h1 h3 hl hw hn
     generalize (c :: s')=s at hK h2 h4 h5 ⊢
     refine aE 0 s.length (Nat.zero_le _) (fun i e h'=>h'=h∧e 0 = .str s∧e 23 = .int .i64 (i:Int)∧e 22 = .int .i64 (s.length:Int)∧(s.take i).all okB=true) ⟨rfl,rfl,rfl,rfl,rfl⟩ ?_ ?_
     ·rintro i e h' _ hi ⟨rfl,e0,e3,e22,ht⟩ K' hn hx hr hp
      have hb:s[i]?=some s[i]:=List.getElem?_eq_getElem hi
      have hlt:decide ((i:Int)<(s.length:Int))=true:=by simp;omega
      rw [F.di.aP]
      simp only [e0,e3,e22,kE,nw,wY hb,bindO_some,condB_bool,hlt,aD]
      refine an (tD ?_)
      simp only [outK_ret,lB,bindO_some,condB_bool]
      cases hl:jY s[i].toNat with
      |true=>
       simp only [Bool.not_true,aC,fJ (a:=(i:Int)) (b:=1) (by omega) (by omega),bindO_some]
       exact hn _ _ ⟨rfl,e0,rfl,e22,gz hb ht (by simp [okB,hl])⟩
      |false=>
       simp only [Bool.not_false,aD]
       refine an (CZ ?_)
       simp only [outK_ret,lB,bindO_some,condB_bool]
       cases hd:rW s[i].toNat with
       |true=>
        simp only [Bool.not_true,aC,fJ (a:=(i:Int)) (b:=1) (by omega) (by omega),bindO_some]
        exact hn _ _ ⟨rfl,e0,rfl,e22,gz hb ht (by simp [okB,hd])⟩
       |false=>
        simp only [Bool.not_false,aD]
        rw [hr,F.di.bp]
        have:s.all okB=false:=all_false hb (by simp [okB,hl,hd])
        rw [this] at hK;exact hK
     ·rintro e h' ⟨rfl,e0,e3,e22,ht⟩ K' hx
      have hlt:decide ((s.length:Int)<(s.length:Int))=false:=by simp
      rw [F.di.aP]
      simp only [e0,e3,e22,kE,nw,bindO_some,condB_bool,hlt,aC]
      rw [hx,F.di.aG]
      rw [List.take_of_length_le (Nat.le_refl _)] at ht
      rw [ht] at hK;exact hK
  ·have h3:decide ((12:Int)<((c :: s').length:Int))=true:=by simp at h2 ⊢;omega
   simp only [h3,aD]
   have:dB (c :: s')=false:=by simp only [dB];rw [decide_eq_false h2];rfl
   rw [this] at hK;exact hK
theorem fB{x:Sl Int}{i:Nat}{v:Int}(hv:x.l[i]?=some v){h:af}:aj none (.iptr (x.l.flatMap encI) (i*1)) h=some (.int .i64 v):=by
 rw [rN lu hv];rfl
def gd(n:Int)(l:List Int):Bool:=l.all fun x=>!decide (x<0)&&!decide (n≤x)
def iv(n:Int):AV:=.int .i64 n
theorem pe(d:List Int):d.map iv=d.flatMap encI:=by
 induction d with
 |nil=>rfl
 |cons a d ih=>rw [List.map_cons,List.flatMap_cons,ih];rfl
theorem j9{b i n:Nat}{k:IntKind}(h:i<n):dx 1 (.slice b 0 n 1) (.int k (i:Int))=some (.ptr b i):=by simp [dx,asNat,h]
theorem kF{b i:Nat}{h:af}{d:List Int}{v:Int}(hb:h.get b=some (.cells (d.map iv)))(hv:d[i]?=some v):aj none (.ptr b i) h=some (.int .i64 v):=by
 rw [ak hb,qq,List.getElem?_map,hv];rfl
theorem pg{b i:Nat}{h:af}{d:List Int}{v:Int}(hb:h.get b=some (.cells (d.map iv)))(hi:i<d.length):bH 1 (.ptr b i) (.int .i64 v) h=some (h.set b (.cells ((d.set i v).map iv))):=by
 rw [dr (n:=1) hb rfl rfl (by simp;omega),List.map_set];rfl
theorem LW(n:Nat):gl [.int .i64 0] n=(List.replicate n (0:Int)).map iv:=by
 induction n with
 |zero=>rfl
 |succ n ih=>rw [gl,ih];rfl
theorem tE{n:Nat}(hn:n≤1000000)(h:af):eX 1 8 [.int .i64 0] (.int .i64 (n:Int)) (.int .i64 (n:Int)) h=some (.slice h.next 0 n 1,h.alloc (.cells ((List.replicate n (0:Int)).map iv))):=by
 have:(8*(n:Int))≤140737488355328:=by omega
 simp [eX,tW,this,LW]
theorem C0{d:List Int}{h:af}{b:Nat}(hb:h.get b=some (.cells (d.map iv))):Fz true h (.slice b 0 d.length 1) (aq encI 1 (some d)):=by
 refine .slice b 0 d.length 1 _ _ hb (by rw [pe]) fun i x y hx hy=>?_
 rw [pe,hy] at hx
 cases hx
 rw [← pe,List.getElem?_map] at hy
 obtain ⟨v,hv,rfl⟩:=Option.map_eq_some_iff.1 hy
 exact .scalar _ rfl
theorem HQ(a b:Int):∃ v,aF .add (.int .i64 a) (.int .i64 b)=some (.int .i64 v):=⟨_,Jh a b⟩
def oy(n:Nat):List Int→Nat→Nat
 |[],r=>r
 |x :: l,r=>oy n l (r*n+x.toNat)
def jH(n:Nat)(l:List Int):Nat:=oy n l 0
inductive Own {α:Type} (enc:α→List AV) (sz k:Nat) (h:af):AV→List α→Prop
 |nil:Own enc sz k h .nils []
 |row (b:Nat) (l:List α):k≤b→b<h.next→h.get b=some (.cells (l.flatMap enc))→Own enc sz k h (.slice b 0 l.length sz) l
variable {α:Type} {enc:α→List AV} {sz k:Nat}
theorem Own.len{h h':af}{a:AV}{l:List α}(o:Own enc sz k h a l):bR .slice a h'=some (.int .i64 (l.length:Int)):=by
 cases o<;>rfl
theorem Own.ext{h h':af}{a:AV}{l:List α}(o:Own enc sz k h a l)(hx:bK h h'):Own enc sz k h' a l:=by
 cases o with
 |nil=>exact .nil
 |row b l h1 h2 h3=>exact .row b l h1 (Nat.lt_of_lt_of_le h2 hx.next) (by rw [hx.get b h2];exact h3)
theorem Own.get{h:af}{a:AV}{l:List α}(o:Own enc sz k h a l)(he:∀ x,(enc x).length=sz){i:Nat}{v:α}(hv:l[i]?=some v) :
  ∃ b,k≤b∧b<h.next∧(∀ q:IntKind,dx sz a (.int q (i:Int))=some (.ptr b (i*sz)))∧aj (some sz) (.ptr b (i*sz)) h=some (.agg (enc v))∧∀ m,m<sz→aj none (.ptr b (i*sz+m)) h=(enc v)[m]?:=by
 cases o with
 |nil=>simp at hv
 |row b l h1 h2 h3=>
  have hi:=(List.getElem?_eq_some_iff.1 hv).1
  refine ⟨b,h1,h2,fun q=>by simp [dx,asNat,hi],?_,fun m hm=>by rw [ak h3,qq,mg he l i m v hv hm]⟩
  rw [ak h3]
  have hp:=kD he l i v hv
  simp only [gh]
  have hlen:i*sz+sz≤(l.flatMap enc).length:=by
   rw [gj he]
   have:(i+1)*sz≤l.length*sz:=Nat.mul_le_mul_right sz hi
   rw [Nat.succ_mul] at this;exact this
  rw [if_pos (by simpa using hlen),hp]
section
variable {α:Type} {enc:α→List AV} {sz k:Nat}
structure Row (enc:α→List AV) (sz:Nat) (h:af) (x:AV) (l:List α):Prop where
 len:jK x=some l.length
 cells:iF sz l.length x h=some (l.flatMap enc)
theorem AJ(he:∀ x,(enc x).length=sz):∀ (l:List α) (i:Nat),(l.flatMap enc).take (i*sz)=(l.take i).flatMap enc
 |[],i=>by simp
 |x :: l,0=>by simp
 |x :: l,i+1=>by
  rw [List.flatMap_cons,List.take_succ_cons,List.flatMap_cons,List.take_append,he,Nat.succ_mul,Nat.add_sub_cancel,AJ he l i,List.take_of_length_le (by rw [he];omega)]
theorem AL(he:∀ x,(enc x).length=sz):∀ (l:List α) (i:Nat),(l.flatMap enc).drop (i*sz)=(l.drop i).flatMap enc
 |[],i=>by simp
 |x :: l,0=>by simp
 |x :: l,i+1=>by
  rw [List.flatMap_cons,List.drop_succ_cons,List.drop_append,he,Nat.succ_mul,Nat.add_sub_cancel,AL he l i,List.drop_of_length_le (by rw [he];omega),List.nil_append]
theorem Own.KA{h:af}{a:AV}{l:List α}(o:Own enc sz k h a l)(he:∀ x,(enc x).length=sz){i:Nat}(hi:i≤l.length) :
  ∃ x,(∀ q:IntKind,fq (some sz) a none (some (.int q (i:Int)))=some x)∧∀ h',bK h h'→Row enc sz h' x (l.take i):=by
 cases o with
 |nil=>simp at hi;subst hi;exact ⟨.nils,fun q=>by simp [fq,jK,kW,asNat],fun h' _=>⟨rfl,rfl⟩⟩
 |row b l h1 h2 h3=>
  refine ⟨.slice b 0 i sz,fun q=>by simp [fq,jK,kW,asNat,hi],fun h' hx=>⟨by simp [jK,Nat.min_eq_left hi],?_⟩⟩
  have h3':h'.get b=some (.cells (l.flatMap enc)):=by rw [hx.get b h2];exact h3
  have hl:(l.flatMap enc).length=l.length*sz:=gj he l
  have hm:(l.take i).length=i:=by rw [List.length_take,Nat.min_eq_left hi]
  simp only [iF,h3',if_true,Nat.zero_add,hl,hm,List.drop_zero]
  rw [if_pos (Nat.mul_le_mul_right sz hi),AJ he]
theorem Own.KB{h:af}{a:AV}{l:List α}(o:Own enc sz k h a l)(he:∀ x,(enc x).length=sz){i:Nat}(hi:i≤l.length) :
  ∃ x,(∀ q:IntKind,fq (some sz) a (some (.int q (i:Int))) none=some x)∧∀ h',bK h h'→Row enc sz h' x (l.drop i):=by
 cases o with
 |nil=>simp at hi;subst hi;exact ⟨.nils,fun q=>by simp [fq,jK,kW,asNat],fun h' _=>⟨rfl,rfl⟩⟩
 |row b l h1 h2 h3=>
  refine ⟨.slice b (i*sz) (l.length-i) sz,fun q=>by simp [fq,jK,kW,asNat,hi],fun h' hx=>⟨by simp [jK],?_⟩⟩
  have h3':h'.get b=some (.cells (l.flatMap enc)):=by rw [hx.get b h2];exact h3
  have hl:(l.flatMap enc).length=l.length*sz:=gj he l
  have hm:(l.drop i).length=l.length-i:=by rw [List.length_drop]
  simp only [iF,h3',if_true,hl,hm]
  have hle:i*sz+(l.length-i)*sz≤l.length*sz:=by rw [← Nat.add_mul];exact Nat.mul_le_mul_right sz (by omega)
  rw [if_pos hle,AL he,List.take_of_length_le]
  rw [gj he,hm];exact Nat.le_refl _
theorem pq(h1:∀ x,bq (enc x)=true):∀ l:List α,bq (l.flatMap enc)=true
 |[]=>rfl
 |x :: l=>by
  have app:∀ a b:List AV,bq a=true→bq b=true→bq (a++b)=true:=by
   intro a b ha hb
   induction a with
   |nil=>exact hb
   |cons y a ih=>
    simp only [bq,List.cons_append,Bool.and_eq_true] at ha ⊢
    exact ⟨ha.1,ih ha.2⟩
  rw [List.flatMap_cons]
  exact app _ _ (h1 x) (pq h1 l)
def dQ:AV→Option Nat
 |.slice b _ _ _=>some b
 |_=>none
theorem Own.append{h:af}{a x:AV}{l m:List α}(o:Own enc sz k h a l)(he:∀ x,(enc x).length=sz)(h1:∀ x,bq (enc x)=true)(r:Row enc sz h x m)(hk:k≤h.next){bytes:Nat}(hroom:(l.length+m.length)*bytes≤cZ) :
  ∃ a' h',cq sz bytes a x h=some (a',h')∧Own enc sz k h' a' (l++m)∧(∀ c,c<h.next→dQ a≠some c→h'.get c=h.get c)∧h.next≤h'.next∧(m≠[]→∀ c,dQ a'=some c→h.next≤c):=by
 cases o with
 |nil=>
  rw [List.length_nil,Nat.zero_add] at hroom
  cases m with
  |nil=>
   refine ⟨.nils,h,?_,.nil,fun _ _ _=>rfl,Nat.le_refl _,fun h=>absurd rfl h⟩
   have hc:=r.cells
   have hl:=r.len
   simp only [List.length_nil] at hc hl
   simp [cq,hl,hc]
  |cons y m=>
   refine ⟨.slice h.next 0 (y :: m).length sz,h.alloc (.cells ((y :: m).flatMap enc)),?_,.row _ _ hk (Nat.lt_succ_self _) (aI _ _),fun c hc _=>by rw [af.aX,if_neg (by omega)],Nat.le_succ _,fun _ c hc=>by cases hc;exact Nat.le_refl _⟩
   have h0:¬ (y :: m).length=0:=by simp
   simp only [cq,r.len,r.cells,if_neg h0]
   rw [if_pos (by rw [Bool.and_eq_true];exact ⟨decide_eq_true hroom,pq h1 _⟩)]
 |row b l hb1 hb2 hb3=>
  cases m with
  |nil=>
   rw [List.append_nil]
   refine ⟨.slice b 0 l.length sz,h,?_,.row b l hb1 hb2 hb3,fun _ _ _=>rfl,Nat.le_refl _,fun h=>absurd rfl h⟩
   have hc:=r.cells
   have hl:=r.len
   simp only [List.length_nil] at hc hl
   simp [cq,hl,hc]
  |cons y m=>
   have h0:¬ (y :: m).length=0:=by simp
   have hl:(l.flatMap enc).length=l.length*sz:=gj he l
   refine ⟨.slice h.next 0 (l++y :: m).length sz,(h.set b .dead).alloc (.cells ((l++y :: m).flatMap enc)),?_,.row _ _ hk ?_ ?_,fun c hc hne=>?_,?_,fun _ c hc=>by cases hc;exact Nat.le_refl _⟩
   ·simp only [cq,r.len,r.cells,if_neg h0,if_true,hb3,List.drop_zero,Nat.zero_add]
    rw [if_pos (by rw [Bool.and_eq_true,Bool.and_eq_true];exact ⟨⟨decide_eq_true hroom,pq h1 _⟩,decide_eq_true (by omega)⟩),← hl,List.take_length,List.flatMap_append,List.length_append]
   ·rw [af.next_alloc,af.next_set];omega
   ·have:=aI (h.set b .dead) (.cells ((l++y :: m).flatMap enc))
    rwa [af.next_set] at this
   ·rw [af.aX,af.next_set,if_neg (by omega),af.aS,if_neg (fun e=>hne (by rw [e];rfl))]
   ·rw [af.next_alloc,af.next_set];omega
end
theorem lF(s:bA):bq (encS s)=true:=rfl
def strLt(a b:bA):Bool:=Op.bytesLess a b
def dM:List bA→bA→List bA
 |[],s=>[s]
 |x :: l,s=>if strLt x s=true then x :: dM l s else if x=s then x :: l else s :: x :: l
theorem KC(a b:bA):aF .lss (.str a) (.str b)=some (.bool (strLt a b)):=by simp [aF,strLt]
theorem nJ(a b:bA):(a==b)=decide (a=b):=by
 by_cases h:a=b
 ·subst h;simp
 ·rw [decide_eq_false h];simp [h]
theorem C5{l:List bA}{i:Nat}{x s:bA}(hx:l[i]?=some x):l.take i++dM (l.drop i) s=if strLt x s=true then l.take (i+1)++dM (l.drop (i+1)) s else if x=s then l else l.take i++(s :: l.drop i):=by
 have h1:=(List.getElem?_eq_some_iff.1 hx).1
 have hd:l.drop i=x :: l.drop (i+1):=by
  rw [List.drop_eq_getElem_cons h1]
  rw [List.getElem?_eq_getElem h1] at hx
  cases hx;rfl
 rw [hd,dM]
 split
 ·rw [List.take_add_one,hx];simp
 ·split
  ·rw [← hd,List.take_append_drop]
  ·rfl
theorem Own.ge{α:Type}{enc:α→List AV}{sz k:Nat}{h:af}{a:AV}{l:List α}(o:Own enc sz k h a l){c:Nat}(hc:dQ a=some c):k≤c:=by
 cases o with
 |nil=>cases hc
 |row b l h1 _ _=>cases hc;exact h1
theorem Own.weak{α:Type}{enc:α→List AV}{sz k j:Nat}{h:af}{a:AV}{l:List α}(o:Own enc sz k h a l)(hj:j≤k):Own enc sz j h a l:=by
 cases o with
 |nil=>exact .nil
 |row b l h1 h2 h3=>exact .row b l (Nat.le_trans hj h1) h2 h3
theorem dH{k:Nat}{h:af}{a:AV}{l:List bA}{s:bA}(o:Own encS 1 k h a l)(hk:k≤h.next)(hl:l.length≤100000){K:Out→af→Bool}
  (hK:∀ a' h',bK h h'→Own encS 1 k h' a' (dM l s)→K (.ret a') h'=true):Sem Tryz.prog 86 [a,.str s] h K:=by
 have hbig:l.length≤cy:=by unfold cy;omega
 refine F.uu ?_
 rw [F.vS]
 have app:∀ i,i≤l.length→dM l s=l.take i++(s :: l.drop i)→∀ e:Env,e 0=a→e 1 = .str s→e 5 = .int .i64 (i:Int) →
   (ag (fE [] [] []) fun c11=>
    ag (fq (some 1) (e 0) none (some (e 5))) fun x12=>
    ag (fE [(.str [])] [(0,1)] [(e 1)]) fun c13=>
    ag (fq (some 1) (e 0) (some (e 5)) none) fun x14=>
    cL (cq 1 16 (.slice (af.next h) 0 0 1) x12 (af.alloc (af.alloc h (.cells c11)) (.cells c13))) fun x15 h16=>
    cL (cq 1 16 x15 (.slice (af.next (af.alloc h (.cells c11))) 0 1 1) h16) fun x17 h18=>
    cL (cq 1 16 x17 x14 h18) fun x19 h20=>
    K (.ret x19) h20)=true:=by
  intro i hi he e e0 e1 e5
  obtain ⟨x12,hx12,r12⟩:=o.KA fI hi
  obtain ⟨x14,hx14,r14⟩:=o.KB fI hi
  rw [show fE [] [] []=some [] from rfl]
  simp only [bindO_some,e0,e1,e5,hx12,hx14]
  rw [show fE [(.str [])] [(0,1)] [.str s]=some [.str s] from rfl]
  simp only [bindO_some]
  have hx1:bK h (af.alloc (af.alloc h (.cells [])) (.cells [.str s])):=(bK.alloc _ _).trans (bK.alloc _ _)
  have g0:(af.alloc (af.alloc h (.cells [])) (.cells [.str s])).get h.next=some (.cells []):=by
   rw [af.aX,af.next_alloc,if_neg (by omega)];exact aI _ _
  have g1:(af.alloc (af.alloc h (.cells [])) (.cells [.str s])).get (h.next+1)=some (.cells [.str s]):=aI _ _
  have gn:(af.alloc (af.alloc h (.cells [])) (.cells [.str s])).next=h.next+2:=rfl
  rw [af.next_alloc]
  generalize (af.alloc (af.alloc h (.cells [])) (.cells [.str s]))=H at hx1 g0 g1 gn ⊢
  have o0:Own encS 1 h.next H (.slice h.next 0 0 1) ([]:List bA):=.row h.next [] (Nat.le_refl _) (by omega) g0
  have hm:cZ=140737488355328:=rfl
  have lt:(l.take i).length=i:=by rw [List.length_take,Nat.min_eq_left hi]
  have ld:(l.drop i).length=l.length-i:=List.length_drop
  obtain ⟨a1,h1,p1,o1,f1,n1,_⟩:=o0.append fI lF (r12 H hx1) (by omega) (bytes:=16) (by rw [hm,lt,List.length_nil];omega)
  simp only [p1,bindO2_some]
  have q1:h1.get (h.next+1)=some (.cells [.str s]):=by rw [f1 _ (by omega) (by simp [dQ])];exact g1
  have rs:Row encS 1 h1 (.slice (h.next+1) 0 1 1) [s]:=⟨rfl,by simp [iF,q1,encS]⟩
  have e1x:bK h h1:=⟨by have:=hx1.next;omega,fun c hc=>by rw [f1 c (by omega) (by simp [dQ];omega)];exact hx1.get c hc⟩
  obtain ⟨a2,h2,p2,o2,f2,n2,_⟩:=o1.append fI lF rs (by omega) (bytes:=16) (by rw [hm,List.nil_append,lt];simp;omega)
  simp only [p2,bindO2_some]
  have e2x:bK h h2:=⟨by have:=e1x.next;omega,fun c hc=>by rw [f2 c (by have:=e1x.next;omega) (fun hb=>by have:=o1.ge hb;omega)];exact e1x.get c hc⟩
  obtain ⟨a3,h3,p3,o3,f3,n3,_⟩:=o2.append fI lF (r14 h2 e2x) (by have:=e2x.next;omega) (bytes:=16) (by rw [hm,ld,List.nil_append,List.length_append,lt];simp;omega)
  simp only [p3,bindO2_some]
  have e3x:bK h h3:=⟨by have:=e2x.next;omega,fun c hc=>by rw [f3 c (by have:=e2x.next;omega) (fun hb=>by have:=o2.ge hb;omega)];exact e2x.get c hc⟩
  refine hK a3 h3 e3x ?_
  rw [he]
  have:=o3.weak hk
  rw [List.nil_append,List.append_assoc] at this
  exact this
 have get:∀ (i:Nat) (x:bA),l[i]?=some x→∃ b,(∀ q:IntKind,dx 1 a (.int q (i:Int))=some (.ptr b (i*1)))∧aj none (.ptr b (i*1)) h=some (.str x):=fun i x hx=>by
  obtain ⟨b,_,_,h3,_,h5⟩:=o.get fI hx
  exact ⟨b,h3,by have:=h5 0 (by omega);rw [Nat.add_zero] at this;rw [this];rfl⟩
 refine aE 0 l.length (Nat.zero_le _) (fun i e h'=>h'=h∧e 0=a∧e 1 = .str s∧e 5 = .int .i64 (i:Int)∧dM l s=l.take i++dM (l.drop i) s) ⟨rfl,rfl,rfl,rfl,rfl⟩ ?_ ?_
 ·rintro i e h' _ hi ⟨rfl,e0,e1,e5,ht⟩ K' hn hx hr hp
  have hv:l[i]?=some l[i]:=List.getElem?_eq_getElem hi
  generalize l[i]=x at hv
  obtain ⟨b,g1,g2⟩:=get i x hv
  rw [C5 hv] at ht
  rw [F.dH.aP]
  simp only [e0,e1,e5,o.len,aQ,Nat.reduceAdd,Nat.reduceEqDiff,reduceIte,bf hi,g1,g2,KC]
  cases hlt:strLt x s with
  |true=>
   rw [if_pos hlt] at ht
   simp only [aD,aK hi hbig,bindO_some]
   exact hn _ _ ⟨rfl,e0,e1,rfl,ht⟩
  |false=>
   rw [if_neg (by rw [hlt];decide)] at ht
   simp only [aC]
   rw [hx,F.dH.aG]
   simp only [aQ,Nat.reduceAdd,Nat.reduceEqDiff,reduceIte,e0,e1,e5,o.len,bf hi,g1,g2,aD,nJ]
   by_cases hxs:x=s
   ·rw [if_pos hxs] at ht
    simp only [decide_eq_true hxs,aD]
    exact hK _ _ (bK.refl _) (by rw [ht];exact o)
   ·rw [if_neg hxs] at ht
    simp only [decide_eq_false hxs,aC]
    have:=app i (Nat.le_of_lt hi) ht e e0 e1 e5
    simp only [e0,e1,e5] at this
    exact this
 ·rintro e h' ⟨rfl,e0,e1,e5,ht⟩ K' hx
  rw [F.dH.aP]
  simp only [e0,e5,o.len,aQ,Nat.reduceAdd,Nat.reduceEqDiff,reduceIte,aR]
  rw [hx,F.dH.aG]
  simp only [aQ,Nat.reduceAdd,Nat.reduceEqDiff,reduceIte,e0,e1,e5,o.len,aR,aC]
  have:=app l.length (Nat.le_refl _) (by rw [ht,List.drop_of_length_le (Nat.le_refl _)];rfl) e e0 e1 e5
  simp only [e0,e1,e5] at this
  exact this
structure ig (es:List Entry) (ck:Nat):Prop where
 nodup:(es.map (·.2.2)).Nodup
 lt:∀ e ∈ es,e.2.2<ck
theorem ig.nil(ck:Nat):ig [] ck:=⟨List.nodup_nil,fun _ h=>by cases h⟩
theorem ig.push{es:List Entry}{ck:Nat}(b:ig es ck)(k v:AV):ig (es++[(k,v,ck)]) (ck+1):=by
 refine ⟨?_,fun e he=>?_⟩
 ·rw [List.map_append,List.nodup_append]
  refine ⟨b.nodup,by simp,fun a ha c hc=>?_⟩
  rw [List.mem_map] at ha
  obtain ⟨e,he,rfl⟩:=ha
  have:=b.lt e he
  simp at hc
  omega
 ·rw [List.mem_append] at he
  rcases he with he|he
  ·have:=b.lt e he;omega
  ·simp at he;rw [he];exact Nat.lt_succ_self _
theorem C6(es:List Entry)(i:Nat)(v:AV):(dV es i v).map (·.2.2)=es.map (·.2.2):=by
 unfold dV
 cases h:es[i]? with
 |none=>rfl
 |some e=>
  simp only [List.map_set]
  apply List.ext_getElem?
  intro j
  by_cases hj:i=j
  ·subst hj
   have hi:=(List.getElem?_eq_some_iff.1 h).1
   rw [List.getElem?_set_self (by simpa using hi),List.getElem?_map,h];rfl
  ·rw [List.getElem?_set_ne hj]
theorem ig.set{es:List Entry}{ck:Nat}(b:ig es ck)(i:Nat)(v:AV):ig (dV es i v) ck:=by
 refine ⟨by rw [C6];exact b.nodup,fun e he=>?_⟩
 have:e.2.2 ∈ (dV es i v).map (·.2.2):=List.mem_map_of_mem he
 rw [C6,List.mem_map] at this
 obtain ⟨e',he',h⟩:=this
 rw [← h];exact b.lt e' he'
theorem rj{d:TypeDesc}{b:Nat}{h h':af}{es es':List Entry}{ck ck':Nat}{k v:AV}(hb:h.get b=some (.map es ck))(hB:ig es ck)(hu:dR d (.map b) k v h=some h')(hg:h'.get b=some (.map es' ck')):ig es' ck':=by
 simp only [dR,hb] at hu
 split at hu
 ·cases hu
  rw [af.aS,if_pos rfl] at hg
  cases hg
  exact hB.set _ _
 ·cases hu
  rw [af.aS,if_pos rfl] at hg
  cases hg
  exact hB.push k v
 ·cases hu
abbrev jS:=List (bA×AV)
def jS.find(m:jS)(k:bA):Option AV:=(List.find? (fun p=>k==p.1) m).map (·.2)
def jS.nA:jS→bA→AV→jS
 |[],k,v=>[(k,v)]
 |p :: m,k,v=>if k==p.1 then (p.1,v) :: m else p :: jS.nA m k v
def pz:List Entry→jS→Prop
 |[],[]=>True
 |e :: es,p :: m=>e.1 = .str p.1∧e.2.1=p.2∧pz es m
 |_,_=>False
theorem pz.gJ{k:bA}:∀ {es:List Entry} {m:jS} (i:Nat),pz es m→∃ r,gJ .string (.str k) es i=some r∧match r with
  |none=>m.find k=none
  |some (j,v)=>∃ n,j=i+n∧m.find k=some v∧∀ w,pz (dV es n w) (m.nA k w)
 |[],[],i,_=>⟨none,rfl,rfl⟩
 |e :: es,p :: m,i,⟨h1,h2,h3⟩=>by
  obtain ⟨ek,ev,en⟩:=e
  simp only at h1 h2
  subst h1;subst h2
  by_cases hk:k=p.1
  ·subst hk
   refine ⟨some (i,p.2),by simp [Go.AM.gJ,qT],0,rfl,by simp [jS.find],fun w=>?_⟩
   simp [dV,pz,jS.nA,h3]
  ·obtain ⟨r,hr,hm⟩:=pz.gJ (k:=k) (i+1) h3
   have hkb:(k==p.1)=false:=by simpa using hk
   refine ⟨r,by simp only [Go.AM.gJ,qT,hkb,hr],?_⟩
   cases r with
   |none=>simpa [jS.find,hk] using hm
   |some jv=>
    obtain ⟨n,a,b,e⟩:=hm
    refine ⟨n+1,by omega,by simpa [jS.find,hk] using b,fun w=>?_⟩
    have:=e w
    simp only [dV,List.getElem?_cons_succ,jS.nA,hkb] at this ⊢
    split at this<;>simp_all [pz]
theorem pz.append{es:List Entry}{m:jS}(h:pz es m){k:bA}(hk:m.find k=none)(v:AV)(n:Nat):pz (es++[(.str k,v,n)]) (m.nA k v):=by
 induction es generalizing m with
 |nil=>cases m with
  |nil=>simp [pz,jS.nA]
  |cons p m=>exact h.elim
 |cons e es ih=>cases m with
  |nil=>exact h.elim
  |cons p m=>
   obtain ⟨h1,h2,h3⟩:=h
   have hne:k≠p.1:=fun e=>by subst e;simp [jS.find] at hk
   have hk':jS.find m k=none:=by simpa [jS.find,hne] using hk
   have:=ih h3 hk'
   simp only [List.cons_append,jS.nA]
   rw [if_neg (by simpa using hne)]
   exact ⟨h1,h2,this⟩
theorem pE{k:Nat}{h:af}{a:AV}{l:List bA}(o:Own encS 1 k h a l){i:Nat}{x:bA}(hx:l[i]?=some x) :
  ∃ b,b<h.next∧(∀ q:IntKind,dx 1 a (.int q (i:Int))=some (.ptr b (i*1)))∧aj none (.ptr b (i*1)) h=some (.str x):=by
 obtain ⟨b,_,h2,h3,_,h5⟩:=o.get fI hx
 exact ⟨b,h2,h3,by have:=h5 0 (by omega);rw [Nat.add_zero] at this;rw [this];rfl⟩
theorem tF{α:Type}{p:α→Bool}{l:List α}{i:Nat}{a:α}(ha:l[i]?=some a)(ht:(l.take i).any p=false)(hp:p a=false):(l.take (i+1)).any p=false:=by
 rw [List.take_add_one,ha];simp [ht,hp]
theorem cM{k:Nat}{h:af}{a:AV}{l:List bA}{s:bA}(o:Own encS 1 k h a l)(hl:l.length≤cy){K:Out→af→Bool}(hK:K (.ret (.bool (l.any fun x=>x==s))) h=true):Sem Tryz.prog 73 [a,.str s] h K:=by
 refine F.nV ?_
 rw [F.oR]
 refine aE 0 l.length (Nat.zero_le _) (fun i e h'=>h'=h∧e 0=a∧e 1 = .str s∧e 5 = .int .i64 (i:Int)∧((l.take i).any fun x=>x==s)=false) ⟨rfl,rfl,rfl,rfl,rfl⟩ ?_ ?_
 ·rintro i e h' _ hi ⟨rfl,e0,e1,e5,ht⟩ K' hn hx hr hp
  have hv:l[i]?=some l[i]:=List.getElem?_eq_getElem hi
  generalize l[i]=x at hv
  obtain ⟨b,_,g1,g2⟩:=pE o hv
  rw [F.cM.aP]
  simp only [e0,e1,e5,o.len,aQ,Nat.reduceAdd,Nat.reduceEqDiff,reduceIte,bf hi,g1,g2]
  cases hq:x==s with
  |true=>
   simp only [aD]
   rw [hr,F.cM.bp]
   simp only [bE,Nat.reduceEqDiff,reduceIte]
   rw [List.any_eq_true.2 ⟨x,List.mem_of_getElem? hv,hq⟩] at hK
   exact hK
  |false=>
   simp only [aC,aK hi hl,bindO_some]
   exact hn _ _ ⟨rfl,e0,e1,rfl,tF hv ht hq⟩
 ·rintro e h' ⟨rfl,e0,e1,e5,ht⟩ K' hx
  rw [F.cM.aP]
  simp only [e0,e5,o.len,aQ,Nat.reduceAdd,Nat.reduceEqDiff,reduceIte,aR]
  rw [hx,F.cM.aG]
  rw [List.take_of_length_le (Nat.le_refl _)] at ht
  rw [ht] at hK;exact hK
theorem Own.push{α:Type}{enc:α→List AV}{sz k:Nat}{h:af}{a:AV}{l:List α}(o:Own enc sz k h a l)(he:∀ x,(enc x).length=sz)(h1:∀ x,bq (enc x)=true)(hk:k≤h.next){bytes:Nat}(hroom:(l.length+1)*bytes≤cZ)(v:α) :
  ∃ a' h',cq sz bytes a (.slice h.next 0 1 sz) (h.alloc (.cells (enc v)))=some (a',h')∧Own enc sz k h' a' (l++[v])∧(∀ c,c<h.next→dQ a≠some c→h'.get c=h.get c)∧h.next≤h'.next∧(∀ h0,bK h0 h→h0.next≤k→bK h0 h')∧∀ c,dQ a'=some c→h.next≤c:=by
 have g:=aI h (.cells (enc v))
 have hn:(h.alloc (.cells (enc v))).next=h.next+1:=af.next_alloc h _
 have hx:bK h (h.alloc (.cells (enc v))):=bK.alloc _ _
 have r:Row enc sz (h.alloc (.cells (enc v))) (.slice h.next 0 1 sz) [v]:=by
  refine ⟨rfl,?_⟩
  have hl:(enc v).length=sz:=he v
  simp only [iF,g,if_true,List.length_singleton,Nat.one_mul,Nat.zero_add,hl,Nat.le_refl,List.drop_zero]
  rw [← hl,List.take_length];simp
 obtain ⟨a',h',p,o',f,n,hf⟩:=(o.ext hx).append he h1 r (by omega) (bytes:=bytes) (by simpa using hroom)
 have f':∀ c,c<h.next→dQ a≠some c→h'.get c=h.get c:=fun c hc hb=>by rw [f c (by omega) hb];exact hx.get c hc
 refine ⟨a',h',p,o',f',by omega,fun h0 e0 hk0=>⟨by have:=e0.next;omega,fun c hc=>?_⟩,fun c hc=>by have:=hf (by simp) c hc;omega⟩
 rw [f' c (by have:=e0.next;omega) (fun hb=>by have:=o.ge hb;omega)]
 exact e0.get c hc
def kg(y:bA×Int):List AV:=[.str y.1,.int .i64 y.2]
theorem lG(y:bA×Int):(kg y).length=2:=rfl
theorem HR(s:bA)(n:Int):jo [.str [],.int .i64 0] [(0,1),(1,1)] [.str s,.int .i64 n]=some (.agg (kg (s,n))):=rfl
theorem HS(y:bA×Int):fE [.str [],.int .i64 0] [(0,2)] [.agg (kg y)]=some (kg y):=rfl
theorem Own.Ez{α:Type}{enc:α→List AV}{sz k:Nat}{h:af}{a:AV}{l:List α}(o:Own enc sz k h a l)(hf:∀ v,∀ x ∈ enc v,Fz true h x x):∃ x:Sl α,x.l=l∧Fz true h a (aq enc sz x):=by
 cases o with
 |nil=>exact ⟨none,rfl,.ez rfl⟩
 |row b l h1 h2 h3=>
  refine ⟨some l,rfl,.slice b 0 l.length sz _ _ h3 rfl fun i x y hx hy=>?_⟩
  rw [hx] at hy
  cases hy
  have:=List.mem_of_getElem? hx
  rw [List.mem_flatMap] at this
  obtain ⟨v,hv,hxv⟩:=this
  exact hf v x hxv
theorem Own.mF{α:Type}{enc:α→List AV}{sz k:Nat}{h:af}{a:AV}{l:List α}(o:Own enc sz k h a l){d:Nat}(hd:d<k)(x:iL):Own enc sz k (h.set d x) a l:=by
 cases o with
 |nil=>exact .nil
 |row b _ w1 w2 w3=>exact .row b l w1 (by rw [af.next_set];exact w2) (by rw [af.aS,if_neg (by omega)];exact w3)
theorem qz(m:cS)(k j:bA)(v:Int):(m.nA k v).find j=if j=k then some v else m.find j:=by
 induction m with
 |nil=>
  simp only [cS.nA,cS.find,List.find?_cons,List.find?_nil]
  by_cases h:j=k
  ·subst h;simp
  ·have:(j==k)=false:=by simpa using h
   rw [this,if_neg h]
 |cons p m ih=>
  simp only [cS.nA]
  by_cases hk:k=p.1
  ·rw [if_pos (by simpa using hk)]
   subst hk
   simp only [cS.find,List.find?_cons]
   by_cases h:j=p.1
   ·subst h;simp
   ·have:(j==p.1)=false:=by simpa using h
    rw [this,if_neg h]
  ·rw [if_neg (by simpa using hk)]
   simp only [cS.find,List.find?_cons] at ih ⊢
   by_cases h:j=p.1
   ·subst h
    simp only [beq_self_eq_true,Option.map_some]
    rw [if_neg (Ne.symm hk)]
   ·have:(j==p.1)=false:=by simpa using h
    rw [this]
    exact ih
theorem C7(m:cS)(k:bA)(v:Int):(m.nA k v).map (·.1)=if k ∈ m.map (·.1) then m.map (·.1) else m.map (·.1)++[k]:=by
 induction m with
 |nil=>simp [cS.nA]
 |cons p m ih=>
  simp only [cS.nA]
  by_cases hk:k=p.1
  ·rw [if_pos (by simpa using hk)]
   subst hk;simp
  ·rw [if_neg (by simpa using hk),List.map_cons,ih]
   by_cases hm:k ∈ m.map (·.1)
   ·rw [if_pos hm,if_pos (by rw [List.map_cons];exact List.mem_cons_of_mem _ hm)];rfl
   ·rw [if_neg hm,if_neg (by rw [List.map_cons,List.mem_cons];exact fun h=>h.elim hk hm)];rfl
theorem AN{m:cS}(hm:(m.map (·.1)).Nodup)(k:bA)(v:Int):((m.nA k v).map (·.1)).Nodup:=by
 rw [C7]
 split
 ·exact hm
 ·rename_i h
  rw [List.nodup_append]
  exact ⟨hm,by simp,fun a ha b hb=>by simp at hb;subst hb;exact fun e=>h (e▸ha)⟩
theorem mV{m:cS}{k:bA}{v:Int}(h:m.find k=some v):(k,v) ∈ m:=by
 unfold cS.find at h
 obtain ⟨p,hp,rfl⟩:=Option.map_eq_some_iff.1 h
 have h1:=List.mem_of_find?_eq_some hp
 have h2:=List.find?_some hp
 simp only [beq_iff_eq] at h2
 subst h2;exact h1
theorem qB{m:cS}(hm:(m.map (·.1)).Nodup){p:bA×Int}(hp:p ∈ m):m.find p.1=some p.2:=by
 induction m with
 |nil=>cases hp
 |cons q m ih=>
  rw [List.map_cons,List.nodup_cons] at hm
  simp only [cS.find,List.find?_cons]
  rcases List.mem_cons.1 hp with rfl|hp
  ·simp
  ·have:(p.1==q.1)=false:=by
    simp only [beq_eq_false_iff_ne]
    exact fun e=>hm.1 (e▸List.mem_map_of_mem hp)
   rw [this]
   exact ih hm.2 hp
theorem iA.mem:∀ {es:List Entry} {m:cS},iA es m→∀ e ∈ es,∃ p ∈ m,e.1 = .str p.1∧e.2.1 = .int .i64 p.2
 |[],_,_,e,he=>by cases he
 |e0 :: es,[],h,_,_=>h.elim
 |e0 :: es,p :: m,⟨h1,h2,h3⟩,e,he=>by
  rcases List.mem_cons.1 he with rfl|he
  ·exact ⟨p,List.mem_cons_self,h1,h2⟩
  ·obtain ⟨q,hq,r⟩:=iA.mem h3 e he
   exact ⟨q,List.mem_cons_of_mem _ hq,r⟩
theorem jT{h:af}{z v:AV}(h1:v.dh = [v])(hv:bq [v]=true):∃ h',bH 1 (.ptr h.next 0) v (h.alloc (.cells [z]))=some h'∧h'.get h.next=some (.cells [v])∧(∀ b,b≠h.next→h'.get b=h.get b)∧h'.next=h.next+1:=by
 refine ⟨_,by rw [dr (n:=1) (aI _ _) (by rw [h1];rfl) (by rw [h1];exact hv) (by simp),h1],?_,fun b hb=>?_,by rw [af.next_set,af.next_alloc]⟩
 ·rw [af.aS,if_pos rfl];rfl
 ·rw [af.aS,if_neg hb,af.aX,if_neg hb]
theorem nK{x s:bA}:∀ {l:List bA},x ∈ dM l s↔x ∈ l∨x=s
 |[]=>by simp [dM]
 |a :: l=>by
  rw [dM]
  split
  ·rw [List.mem_cons,nK (l:=l),List.mem_cons,or_assoc]
  ·split
   ·rename_i h;subst h
    rw [List.mem_cons]
    exact ⟨fun h=>.inl h,fun h=>h.elim id .inl⟩
   ·rw [List.mem_cons];exact Or.comm
theorem Fz.EA{old:Bool}{h:af}{v r:AV}(hr:r.scalar=true)(hf:Fz old h v r):v=r:=by
 cases hf<;>first|rfl|(simp [AV.scalar] at hr)
theorem Sem.Lr{P:Program}{f:FuncId}{args args':List AV}{r:AV}{h:af}{K:Out→af→Bool}(hr:r.scalar=true)(hs:Sem P f args' af.empty (lU r))(hp:lf true h args args')(hK:K (.ret r) h=true):Sem P f args h K:=
 hs.Mz hp fun o h' ho=>by
  obtain ⟨v,rfl,hf⟩:=cz.1 ho
  obtain rfl:=hf.EA hr
  exact ⟨_,_,rfl,.scalar _ hr,hK⟩
theorem qC{old:Bool}{d:List Int}{h:af}{b:Nat}(hb:h.get b=some (.cells (d.map iv))):Fz old h (.slice b 0 d.length 1) (aq encI 1 (some d)):=by
 refine .slice b 0 d.length 1 _ _ hb (by rw [pe]) fun i x y hx hy=>?_
 rw [pe,hy] at hx
 cases hx
 rw [← pe,List.getElem?_map] at hy
 obtain ⟨v,hv,rfl⟩:=Option.map_eq_some_iff.1 hy
 exact .scalar _ rfl
theorem Own.lt{α:Type}{enc:α→List AV}{sz k:Nat}{h:af}{a:AV}{l:List α}(o:Own enc sz k h a l){c:Nat}(hc:dQ a=some c):c<h.next:=by
 cases o with
 |nil=>cases hc
 |row b l h1 h2 h3=>cases hc;exact h2
theorem kL:∀ a:bA,strLt a a=false
 |[]=>rfl
 |x :: a=>by
  have:=kL a
  unfold strLt at this ⊢
  simp [Op.bytesLess,this]
theorem pF:∀ {a b c:bA},strLt a b=true→strLt b c=true→strLt a c=true
 |_,[],_,h,_=>by unfold strLt at h;simp [Op.bytesLess] at h
 |_,_ :: _,[],_,h=>by unfold strLt at h;simp [Op.bytesLess] at h
 |[],_ :: _,_ :: _,_,_=>rfl
 |x :: a,y :: b,z :: c,h1,h2=>by
  have ih:=@pF a b c
  unfold strLt at h1 h2 ih ⊢
  simp only [Op.bytesLess,Bool.or_eq_true,decide_eq_true_eq,Bool.and_eq_true,beq_iff_eq] at h1 h2 ⊢
  rcases h1 with h1|⟨rfl,h1⟩<;>rcases h2 with h2|⟨rfl,h2⟩
  ·exact .inl (UInt8.lt_trans h1 h2)
  ·exact .inl h1
  ·exact .inl h2
  ·exact .inr ⟨rfl,ih h1 h2⟩
theorem uH:∀ {a b:bA},strLt a b=false→a≠b→strLt b a=true
 |[],[],_,h=>absurd rfl h
 |[],_ :: _,h,_=>by unfold strLt at h;simp [Op.bytesLess] at h
 |_ :: _,[],_,_=>rfl
 |x :: a,y :: b,h1,h2=>by
  have ih:=@uH a b
  unfold strLt at h1 ih ⊢
  simp only [Op.bytesLess,Bool.or_eq_false_iff,decide_eq_false_iff_not,Bool.and_eq_false_iff,beq_eq_false_iff_ne] at h1
  simp only [Op.bytesLess,Bool.or_eq_true,decide_eq_true_eq,Bool.and_eq_true,beq_iff_eq]
  obtain ⟨h3,h4⟩:=h1
  by_cases e:x=y
  ·subst e
   rcases h4 with h4|h4
   ·exact absurd rfl h4
   ·exact .inr ⟨rfl,ih h4 (fun h=>h2 (by rw [h]))⟩
  ·refine .inl ?_
   rcases UInt8.lt_or_lt_of_ne e with h|h
   ·exact absurd h h3
   ·exact h
theorem LX:∀ {a b:bA},leB a b=true→a≠b→strLt a b=true:=fun {a b} h hne=>by
 cases hs:strLt a b with
 |true=>rfl
 |false=>
  exfalso
  have key:∀ {a b:bA},strLt b a=true→b<a:=by
   intro a
   induction a with
   |nil=>intro b h;unfold strLt at h;cases b<;>simp [Op.bytesLess] at h
   |cons x a ih=>
    intro b h
    cases b with
    |nil=>exact List.nil_lt_cons _ _
    |cons y b=>
     unfold strLt at h
     simp only [Op.bytesLess,Bool.or_eq_true,decide_eq_true_eq,Bool.and_eq_true,beq_iff_eq] at h
     rcases h with h|⟨rfl,h⟩
     ·exact List.cons_lt_cons_iff.2 (.inl h)
     ·exact List.cons_lt_cons_iff.2 (.inr ⟨rfl,ih h⟩)
  have h1:=key (uH hs hne)
  have h2:a≤b:=of_decide_eq_true h
  exact absurd h1 (List.not_lt.2 h2)
def nW(l:List bA):Prop:=l.Pairwise fun a b=>strLt a b=true
theorem rq:∀ {l m:List bA},nW l→nW m→(∀ x,x ∈ l↔x ∈ m)→l=m
 |[],[],_,_,_=>rfl
 |[],y :: m,_,_,h=>by have:=(h y).2 List.mem_cons_self;cases this
 |x :: l,[],_,_,h=>by have:=(h x).1 List.mem_cons_self;cases this
 |x :: l,y :: m,hl,hm,h=>by
  obtain ⟨l1,l2⟩:=List.pairwise_cons.1 hl
  obtain ⟨m1,m2⟩:=List.pairwise_cons.1 hm
  have hxy:x=y:=by
   rcases List.mem_cons.1 ((h x).1 List.mem_cons_self) with e|e
   ·exact e
   ·rcases List.mem_cons.1 ((h y).2 List.mem_cons_self) with e'|e'
    ·exact e'.symm
    ·have:=pF (m1 x e) (l1 y e')
     rw [kL] at this;cases this
  subst hxy
  rw [rq l2 m2 fun z=>?_]
  constructor
  ·intro hz
   rcases List.mem_cons.1 ((h z).1 (List.mem_cons_of_mem _ hz)) with e|e
   ·subst e;have:=l1 z hz;rw [kL] at this;cases this
   ·exact e
  ·intro hz
   rcases List.mem_cons.1 ((h z).2 (List.mem_cons_of_mem _ hz)) with e|e
   ·subst e;have:=m1 z hz;rw [kL] at this;cases this
   ·exact e
theorem ru:∀ {l:List bA},nW l→∀ s,nW (dM l s)
 |[],_,s=>List.pairwise_singleton _ _
 |x :: l,h,s=>by
  obtain ⟨h1,h2⟩:=List.pairwise_cons.1 h
  rw [dM]
  split
  ·rename_i hx
   refine List.pairwise_cons.2 ⟨fun y hy=>?_,ru h2 s⟩
   rcases nK.1 hy with hy|rfl
   ·exact h1 y hy
   ·exact hx
  ·rename_i hx
   split
   ·exact h
   ·rename_i hne
    have hsx:strLt s x=true:=uH (by simpa using hx) hne
    refine List.pairwise_cons.2 ⟨fun y hy=>?_,h⟩
    rcases List.mem_cons.1 hy with rfl|hy
    ·exact hsx
    ·exact pF hsx (h1 y hy)
theorem AO{ck:Nat}:∀ {es:List Entry},(∀ e ∈ es,(∃ s,e.1 = .str s∧s.length≤1000)∧e.2.2<ck)→(es.map keyBytes).Nodup→(es.map (·.2.2)).Nodup→nC ck es=true
 |[],_,_,_=>rfl
 |e :: es,h,h1,h2=>by
  rw [List.map_cons,List.nodup_cons] at h1 h2
  obtain ⟨⟨s,hs,hl⟩,hc⟩:=h e List.mem_cons_self
  have ih:=AO (ck:=ck) (es:=es) (fun f hf=>h f (List.mem_cons_of_mem _ hf)) h1.2 h2.2
  have hb:Nat.ble s.length 140737488351232=true:=Nat.ble_eq_true_of_le (by omega)
  have hc':Nat.ble (e.2.2+1) ck=true:=Nat.ble_eq_true_of_le hc
  have hall:es.all (fun f=>!(keyBytes e==keyBytes f)&&!(Nat.beq e.2.2 f.2.2))=true:=by
   rw [List.all_eq_true]
   intro f hf
   have q1:(keyBytes e==keyBytes f)=false:=by
    simp only [beq_eq_false_iff_ne]
    exact fun q=>h1.1 (by rw [q];exact List.mem_map_of_mem hf)
   have q2:Nat.beq e.2.2 f.2.2=false:=by
    cases hq:Nat.beq e.2.2 f.2.2 with
    |false=>rfl
    |true=>exact absurd (by rw [Nat.eq_of_beq_eq_true hq];exact List.mem_map_of_mem hf) h2.1
   rw [q1,q2];rfl
  simp only [nC,hs,isStr,hb,hc',hall,ih,Bool.and_self]
theorem keys_map{M:Nat}{h:af}{K:Out→af→Bool}(hK:K (.ret (.func 114 [] [.ptr h.next 0])) (h.alloc (.box (.map M)))=true):Sem Tryz.prog 50 [.map M] h K:=
 ta.sem (f:=50) (g:=Fp 114) rfl hK
theorem EB{M b:Nat}{es:List Entry}{ck:Nat}{h:af}{K:Out→af→Bool}(hb:h.get b=some (.box (.map M)))(hM:h.get M=some (.map es ck))(hok:nC ck es=true)(hlen:es.length≤1000000)
  (hK:∀ a h',bK h h'→Own encS 1 h.next h' a (mQ (es.map keyBytes))→K (.ret a) h'=true):Sem Tryz.prog 49 [.func 114 [] [.ptr b 0]] h K:=by
 refine ta.sem (f:=49) (g:=qu 114) rfl ?_
 have hl:Nat.ble (es.length*16) 140737488355328=true:=Nat.ble_eq_true_of_le (by omega)
 have h2:qu 114 [.func 114 [] [.ptr b 0]] h K=true:=by
  simp only [qu,hb,hM,hok,hl,Bool.true_and]
  rw [show Nat.beq 114 114=true from rfl,Bool.true_and]
  generalize mQ (es.map keyBytes)=ns at hK ⊢
  cases ns with
  |nil=>exact hK _ _ (bK.refl _) .nil
  |cons k ks=>
   have e:(k :: ks).map AV.str=(k :: ks).flatMap encS:=by
    generalize (k :: ks)=l
    induction l with
    |nil=>rfl
    |cons x l ih=>rw [List.map_cons,List.flatMap_cons,ih];rfl
   refine hK _ _ (bK.alloc _ _) ?_
   rw [e]
   exact .row _ (k :: ks) (Nat.le_refl _) (Nat.lt_succ_self _) (aI _ _)
 exact h2
theorem BV{l:List bA}(hn:l.Nodup):nW (mQ l)∧∀ x,x ∈ mQ l↔x ∈ l:=by
 refine ⟨?_,fun x=>(lC l).mem_iff⟩
 have h1:=nD l
 have h2:(mQ l).Nodup:=(lC l).nodup_iff.2 hn
 unfold nW
 unfold List.Nodup at h2
 exact (h1.and h2).imp fun {a b} h=>LX h.1 h.2
theorem pG{b:Nat}{h:af}{es:List Entry}{ck:Nat}{m:cS}(hb:h.get b=some (.map es ck))(hm:iA es m)(k:bA) :
  cV .string (.int .i64 0) false (.map b) (.str k) h=some (.int .i64 ((m.find k).getD 0)):=by
 obtain ⟨r,hr,hm'⟩:=iA.gJ (k:=k) 0 hm
 simp only [cV,jm,hb,mK,mJ,if_true,hr]
 cases r with
 |none=>simp at hm';simp [hm']
 |some jv=>
  obtain ⟨n,q,_,b,c,_⟩:=hm'
  obtain ⟨j,v⟩:=jv
  simp only at c
  subst c
  simp [b]
theorem Fu:∀ {es:List Entry} {m:cS},iA es m→es.map keyBytes=m.map (·.1)
 |[],[],_=>rfl
 |e :: es,p :: m,⟨h1,_,h3⟩=>by
  obtain ⟨ek,ev⟩:=e
  simp only at h1
  subst h1
  rw [List.map_cons,List.map_cons,Fu h3];rfl
end
end Go.AM
namespace Go.AM
open Go Go.Proofs
noncomputable section
theorem wZ{α:Type}{enc:α→List AV}{sz:Nat}(he:∀ a,(enc a).length=sz)(x:Sl α)(h:af):Row enc sz h (aq enc sz x) x.l:=by
 cases x with
 |none=>exact ⟨rfl,rfl⟩
 |some l=>
  refine ⟨rfl,?_⟩
  have hl:(l.flatMap enc).length=l.length*sz:=gj he l
  simp only [aq,iF,Sl.l_some,Nat.zero_add,hl,beq_self_eq_true,Nat.le_refl,decide_true,Bool.and_self,if_true,List.drop_zero]
  rw [← hl,List.take_length]
structure dI where
 kind:Int
 neg:Bool
 name:bA
 args:Sl bA
structure aJ where
 name:bA
 args:Sl bA
 body:Sl dI
def bJ(c:dI):List AV:=[.int .i64 c.kind,.bool c.neg,.str c.name,aq encS 1 c.args]
def fW(nm:bA)(xs:Sl bA):List AV:=[.str nm,aq encS 1 xs]
def aM(r:aJ):List AV:=[.str r.name,aq encS 1 r.args,aq bJ 4 r.body]
theorem fX(c:dI):(bJ c).length=4:=rfl
theorem eP(r:aJ):(aM r).length=3:=rfl
theorem yK(c:dI):AV.pureL (bJ c)=true:=by simp [bJ,AV.pureL,AV.pure,cj kI]
theorem eC(r:aJ):AV.pureL (aM r)=true:=by simp [aM,AV.pureL,AV.pure,cj kI,cj yK]
theorem uI(nm:bA)(xs:Sl bA):bq (fW nm xs)=true:=by
 unfold fW;simp only [bq,iz,Bool.and_true];rfl
theorem fY(c:dI):bq (bJ c)=true:=by
 unfold bJ;simp only [bq,iz,Bool.and_true];rfl
theorem ji(r:aJ):bq (aM r)=true:=by
 unfold aM;simp only [bq,iz,Bool.and_true];rfl
def dI.ok(c:dI):Prop:=c.name.length≤cy∧c.args.l.length≤cy∧∀ s ∈ c.args.l,s.length≤cy
def aJ.ok(r:aJ):Prop:=r.name.length≤cy∧r.args.l.length≤cy∧(∀ s ∈ r.args.l,s.length≤cy)∧r.body.l.length≤cy∧∀ c ∈ r.body.l,c.ok
theorem Fv(a b c d:AV):gh (some 2) [a,b,c,d] 2=some (.agg [c,d]):=rfl
theorem Fw(a b c:AV):gh (some 2) [a,b,c] 0=some (.agg [a,b]):=rfl
theorem w8(a b c d:AV):gh (some 4) [a,b,c,d] 0=some (.agg [a,b,c,d]):=rfl
theorem nL(a b c:AV):gh (some 3) [a,b,c] 0=some (.agg [a,b,c]):=rfl
theorem gC{x:Sl bA}{i:Nat}{v:bA}(hv:x.l[i]?=some v){h:af}:aj none (.iptr (x.l.flatMap encS) (i*1)) h=some (.str v):=by
 rw [rN fI hv];rfl
theorem Aa{x:Sl bA}(hx:x.l.length≤cy){g:FuncId}{a b:List AV}{h:af}{p:bA→Bool}(hp:∀ (v:bA) (K:Out→af→Bool),K (.ret (.bool (p v))) h=true→Sem Tryz.prog g (a++([.str v]++b)) h K)
  {K:Out→af→Bool} (hK:∀ n:Int,decide (0≤n)=x.l.any p→K (.ret (.int .i64 n)) h=true):Sem Tryz.prog 190 [aq encS 1 x,.func g a b] h K:=by
 refine F.iH ?_
 rw [F.iO]
 simp only [aQ,Nat.reduceAdd,Nat.reduceEqDiff,reduceIte]
 refine aE 0 x.l.length (Nat.zero_le _) (fun i e h'=>h'=h∧e 0=aq encS 1 x∧e 1 = .func g a b∧e 7 = .int .i64 (x.l.length:Int)∧e 8 = .int .i64 (i:Int)∧(x.l.take i).any p=false) ⟨rfl,rfl,rfl,rfl,rfl,rfl⟩ ?_ ?_
 ·rintro i e h' _ hi ⟨rfl,e0,e1,e7,e8,ht⟩ K' hn hx' hr hp'
  have hv:x.l[i]?=some x.l[i]:=List.getElem?_eq_getElem hi
  rw [F.bh.aP]
  simp only [e0,e1,e7,e8,aQ,Nat.reduceAdd,Nat.reduceEqDiff,reduceIte,bf hi,aT x hi,gC hv,callV_func]
  refine an (hp _ _ ?_)
  simp only [aQ,Nat.reduceAdd,Nat.reduceEqDiff,reduceIte]
  cases hq:p x.l[i] with
  |true=>
   simp only [aD]
   rw [hr,F.bh.bp]
   refine hK (i:Int) ?_
   rw [decide_eq_true (by omega:(0:Int)≤(i:Int))]
   exact (List.any_eq_true.2 ⟨_,List.mem_of_getElem? hv,hq⟩).symm
  |false=>
   simp only [aC,aK hi hx,bindO_some]
   exact hn _ _ ⟨rfl,e0,e1,e7,rfl,by rw [List.take_add_one,hv,List.any_append,ht];simp [hq]⟩
 ·rintro e h' ⟨rfl,e0,e1,e7,e8,ht⟩ K' hx'
  rw [F.bh.aP]
  simp only [e0,e1,e7,e8,aQ,Nat.reduceAdd,Nat.reduceEqDiff,reduceIte,aR]
  rw [hx',F.bh.aG]
  rw [List.take_of_length_le (Nat.le_refl _)] at ht
  exact hK (-1) (by rw [ht];rfl)
theorem uJ{x:Sl bA}(hx:x.l.length≤cy){g:FuncId}{a b:List AV}{h:af}{p:bA→Bool}(hp:∀ (v:bA) (K:Out→af→Bool),K (.ret (.bool (p v))) h=true→Sem Tryz.prog g (a++([.str v]++b)) h K)
  {K:Out→af→Bool} (hK:K (.ret (.bool (x.l.any p))) h=true):Sem Tryz.prog 168 [aq encS 1 x,.func g a b] h K:=by
 refine F.gN ?_
 rw [F.hG]
 refine an (Aa hx hp fun n hn=>?_)
 simp only [aQ,Nat.reduceAdd,Nat.reduceEqDiff,reduceIte]
 rw [hn];exact hK
theorem BW{s:bA}{h:af}{K:Out→af→Bool}(hK:K (.ret (.bool (!dB s))) h=true):Sem Tryz.prog 169 [.str s] h K:=by
 refine F.uw ?_
 rw [F.vW]
 refine an (di ?_)
 simp only [aQ,Nat.reduceAdd,Nat.reduceEqDiff,reduceIte]
 exact hK
theorem KD{α:Type}(p:α→Bool)(l:List α):(!(l.any fun x=>!p x))=l.all p:=by
 induction l with
 |nil=>rfl
 |cons a l ih=>rw [List.any_cons,List.all_cons,← ih];cases p a<;>simp
theorem KE{α:Type}(p:α→Bool):∀ (l:List α) (h:l.length=2),l.all p=(p (l[0]'(by omega))&&p (l[1]'(by omega)))
 |[a,b],_=>by simp
def jI(nm:bA)(xs:List bA):Bool:=dB nm&&(decide (xs.length≤12)&&xs.all dB)
theorem yL{nm:bA}{xs:Sl bA}(hx:xs.l.length≤cy){h:af}{K:Out→af→Bool}(hK:K (.ret (.bool (jI nm xs.l))) h=true):Sem Tryz.prog 130 [.agg [.str nm,aq encS 1 xs]] h K:=by
 refine Sem.data (r:=.bool (jI nm xs.l)) ?_ (by simp [AV.pureL,AV.pure,cj kI]) hK
 clear hK
 refine F.yg ?_
 rw [F.zO]
 have g0:(af.alloc af.empty (.cells (fW nm xs))).get 0=some (.cells (fW nm xs)):=aI _ _
 have hb:ef (.agg [.str nm,aq encS 1 xs])=some (fW nm xs):=cI (uI nm xs)
 simp only [hb,bindO_some,bM]
 generalize (af.alloc af.empty (.cells (fW nm xs)))=H at g0 ⊢
 have fin:∀ b:Bool,b=jI nm xs.l→lU (.bool (jI nm xs.l)) (.ret (.bool b)) H=true:=fun b hb=>by rw [hb];exact eV rfl
 simp only [aQ,Nat.reduceAdd,Nat.reduceEqDiff,reduceIte,ak g0,fW]
 refine an (di ?_)
 simp only [aQ,Nat.reduceAdd,Nat.reduceEqDiff,reduceIte]
 cases hn:dB nm with
 |false=>simp only [aC];exact fin _ (by simp [jI,hn])
 |true=>
  simp only [aD,aQ,Nat.reduceAdd,Nat.reduceEqDiff,reduceIte,ak g0,fW]
  by_cases h12:xs.l.length≤12
  ·simp only [decide_eq_true (by omega:(xs.l.length:Int)≤12),aD,aQ,Nat.reduceAdd,Nat.reduceEqDiff,reduceIte,ak g0,fW]
   refine an (uJ hx (p:=fun s=>!dB s) (fun v K hK=>BW hK) ?_)
   simp only [aQ,Nat.reduceAdd,Nat.reduceEqDiff,reduceIte]
   exact fin _ (by rw [KD];simp [jI,hn,h12])
  ·simp only [decide_eq_false (by omega:¬ (xs.l.length:Int)≤12),aC]
   exact fin _ (by simp [jI,h12])
def eZ(c:dI):Bool:=if c.kind=0 then jI c.name c.args.l else if c.kind=1∨c.kind=2 then decide (c.name = [])&&(decide (c.args.l.length=2)&&c.args.l.all dB) else false
theorem eF{c:dI}(hc:c.ok){h:af}{K:Out→af→Bool}(hK:K (.ret (.bool (eZ c))) h=true):Sem Tryz.prog 132 [.agg [.int .i64 c.kind,.bool c.neg,.str c.name,aq encS 1 c.args]] h K:=by
 refine Sem.data (r:=.bool (eZ c)) ?_ (by simp [AV.pureL,AV.pure,cj kI]) hK
 clear hK
 refine F.qK ?_
 rw [F.rR]
 have g0:(af.alloc af.empty (.cells (bJ c))).get 0=some (.cells (bJ c)):=aI _ _
 have hb:ef (.agg [.int .i64 c.kind,.bool c.neg,.str c.name,aq encS 1 c.args])=some (bJ c):=cI (fY c)
 simp only [hb,bindO_some,bM]
 generalize (af.alloc af.empty (.cells (bJ c)))=H at g0 ⊢
 have fin:∀ b:Bool,b=eZ c→lU (.bool (eZ c)) (.ret (.bool b)) H=true:=fun b hb=>by rw [hb];exact eV rfl
 generalize lU (.bool (eZ c))=R at fin ⊢
 simp only [aQ,Nat.reduceAdd,Nat.reduceEqDiff,reduceIte,ak g0,bJ,ct,Fv]
 by_cases k0:c.kind=0
 ·simp only [decide_eq_true k0,aD]
  refine an (yL hc.2.1 ?_)
  simp only [aQ,Nat.reduceAdd,Nat.reduceEqDiff,reduceIte]
  exact fin _ (by simp [eZ,k0])
 simp only [decide_eq_false k0,aC]
 have J:∀ (e:Env) (b:Bool),e 1 = .ptr 0 0→e 10 = .bool b→(b=true↔(c.kind=1∨c.kind=2))→F.eF.J0 R ⟨e,40,[],H⟩=true:=by
  intro e b e1 e10 hb
  rw [F.eF.yh]
  simp only [e1,e10,aQ,Nat.reduceAdd,Nat.reduceEqDiff,reduceIte]
  cases b with
  |false=>
   simp only [aC]
   have:¬ (c.kind=1∨c.kind=2):=fun h=>by have:=hb.2 h;cases this
   exact fin _ (by simp [eZ,k0,this])
  |true=>
   have hk:=hb.1 rfl
   have hc1:eZ c=(decide (c.name = [])&&(decide (c.args.l.length=2)&&c.args.l.all dB)):=by simp only [eZ,if_neg k0,if_pos hk]
   rw [hc1] at fin
   simp only [aD,aQ,Nat.reduceAdd,Nat.reduceEqDiff,reduceIte,ak g0,bJ,nJ]
   by_cases hn:c.name = []
   ·simp only [decide_eq_true hn,aD,aQ,Nat.reduceAdd,Nat.reduceEqDiff,reduceIte,ak g0,bJ,ct]
    by_cases h2:c.args.l.length=2
    ·simp only [decide_eq_true (by omega:(c.args.l.length:Int)=2),aD,aQ,Nat.reduceAdd,Nat.reduceEqDiff,reduceIte,ak g0,bJ]
     have v0:c.args.l[0]?=some c.args.l[0]:=List.getElem?_eq_getElem (by omega)
     have v1:c.args.l[1]?=some c.args.l[1]:=List.getElem?_eq_getElem (by omega)
     have hall:c.args.l.all dB=(dB c.args.l[0]&&dB c.args.l[1]):=KE dB _ h2
     have i0:=aT (enc:=encS) (sz:=1) (k:=.i64) c.args (i:=0) (by omega)
     have i1:=aT (enc:=encS) (sz:=1) (k:=.i64) c.args (i:=1) (by omega)
     have l0:=fun h=>gC (x:=c.args) v0 (h:=h)
     have l1:=fun h=>gC (x:=c.args) v1 (h:=h)
     simp only [show ((0:Nat):Int)=0 from rfl,show ((1:Nat):Int)=1 from rfl] at i0 i1
     simp only [i0,i1,l0,l1,aQ,Nat.reduceAdd,Nat.reduceEqDiff,reduceIte]
     refine an (di ?_)
     simp only [aQ,Nat.reduceAdd,Nat.reduceEqDiff,reduceIte]
     rw [hall] at fin
     cases n0:dB c.args.l[0] with
     |false=>simp only [aC];exact fin _ (by simp [n0])
     |true=>
      simp only [aD,aQ,Nat.reduceAdd,Nat.reduceEqDiff,reduceIte,ak g0,bJ,i0,i1,l0,l1]
      refine an (di ?_)
      simp only [aQ,Nat.reduceAdd,Nat.reduceEqDiff,reduceIte]
      exact fin _ (by simp [n0,hn,h2])
    ·simp only [decide_eq_false (by omega:¬ (c.args.l.length:Int)=2),aC]
     exact fin _ (by simp [h2])
   ·simp only [decide_eq_false hn,aC]
    exact fin _ (by simp [hn])
 by_cases k1:c.kind=1
 ·simp only [decide_eq_true k1,aD]
  exact J _ true rfl rfl (by simp [k1])
 ·simp only [decide_eq_false k1,aC]
  exact J _ (decide (c.kind=2)) rfl rfl (by simp [k1])
end
end Go.AM
namespace Go.AM
open Go Go.Proofs
noncomputable section
theorem Gi{k:Nat}{h:af}{a:AV}{l:List bA}{s:bA}(o:Own encS 1 k h a l)(hl:l.length≤cy){K:Out→af→Bool}
  (hK:∀ n:Int,decide (0≤n)=(l.any fun x=>s==x)→K (.ret (.int .i64 n)) h=true):Sem Tryz.prog 157 [a,.str s] h K:=by
 refine F.fK ?_
 rw [F.fR]
 simp only [o.len,aQ,Nat.reduceAdd,Nat.reduceEqDiff,reduceIte]
 refine aE 0 l.length (Nat.zero_le _) (fun i e h'=>h'=h∧e 0=a∧e 1 = .str s∧e 7 = .int .i64 (l.length:Int)∧e 8 = .int .i64 (i:Int)∧((l.take i).any fun x=>s==x)=false) ⟨rfl,rfl,rfl,rfl,rfl,rfl⟩ ?_ ?_
 ·rintro i e h' _ hi ⟨rfl,e0,e1,e7,e8,ht⟩ K' hn hx' hr hp'
  have hv:l[i]?=some l[i]:=List.getElem?_eq_getElem hi
  generalize l[i]=x at hv
  obtain ⟨b,_,g1,g2⟩:=pE o hv
  rw [F.bl.aP]
  simp only [e0,e1,e7,e8,aQ,Nat.reduceAdd,Nat.reduceEqDiff,reduceIte,bf hi,g1,g2]
  cases hq:s==x with
  |true=>
   simp only [aD]
   rw [hr,F.bl.bp]
   refine hK (i:Int) ?_
   rw [decide_eq_true (by omega:(0:Int)≤(i:Int))]
   exact (List.any_eq_true.2 ⟨_,List.mem_of_getElem? hv,hq⟩).symm
  |false=>
   simp only [aC,aK hi hl,bindO_some]
   exact hn _ _ ⟨rfl,e0,e1,e7,rfl,tF hv ht hq⟩
 ·rintro e h' ⟨rfl,e0,e1,e7,e8,ht⟩ K' hx'
  rw [F.bl.aP]
  simp only [e0,e1,e7,e8,aQ,Nat.reduceAdd,Nat.reduceEqDiff,reduceIte,aR]
  rw [hx',F.bl.aG]
  rw [List.take_of_length_le (Nat.le_refl _)] at ht
  exact hK (-1) (by rw [ht];rfl)
theorem BX{k:Nat}{h:af}{a:AV}{l:List bA}{s:bA}(o:Own encS 1 k h a l)(hl:l.length≤cy){K:Out→af→Bool}
  (hK:K (.ret (.bool (l.any fun x=>s==x))) h=true):Sem Tryz.prog 155 [a,.str s] h K:=by
 refine F.iP ?_
 rw [F.ja]
 refine an (Gi o hl fun n hn=>?_)
 simp only [aQ,Nat.reduceAdd,Nat.reduceEqDiff,reduceIte]
 rw [hn];exact hK
def yM(o:List bA)(s:bA):List bA:=if (o.any fun x=>s==x)=true then o else o++[s]
def dN(o l:List bA):List bA:=l.foldl yM o
theorem vt{o l:List bA}{i:Nat}{s:bA}(hs:l[i]?=some s):dN o (l.take (i+1))=yM (dN o (l.take i)) s:=by
 unfold dN;rw [List.take_add_one,hs];simp
theorem HT(o:List bA)(s:bA):(yM o s).length≤o.length+1:=by
 unfold yM;split<;>simp
theorem lH:∀ (l o:List bA),(dN o l).length≤o.length+l.length
 |[],o=>Nat.le_refl _
 |s :: l,o=>by
  have h1:=lH l (yM o s)
  have h2:=HT o s
  show (dN (yM o s) l).length≤_
  rw [List.length_cons];omega
theorem pH{α:Type}{enc:α→List AV}{sz k:Nat}{h:af}{a:AV}{l:List α}(o:Own enc sz k h a l):a.dh = [a]∧bq [a]=true:=by
 cases o<;>exact ⟨rfl,rfl⟩
theorem Gj{α:Type}{enc:α→List AV}{sz k:Nat}{h:af}{a b:AV}{l:List α}{V:Nat}(o:Own enc sz k h a l)(hV:h.get V=some (.cells [b])):bH 1 (.ptr V 0) a h=some (h.set V (.cells [a])):=by
 obtain ⟨h1,h2⟩:=pH o
 rw [dr (n:=1) hV (by rw [h1];rfl) (by rw [h1];exact h2) (by simp),h1];rfl
theorem Ls(s:bA):fE [.str []] [(0,1)] [.str s]=some (encS s):=rfl
theorem vu{V k:Nat}{h:af}{a:AV}{l:List bA}{xs:Sl bA}(hV:h.get V=some (.cells [a]))(hVk:V<k)(o:Own encS 1 k h a l)(hk:k≤h.next)(hlen:l.length+xs.l.length≤100000000){K:Out→af→Bool}
  (hK:∀ a' h',h'.get V=some (.cells [a'])→Own encS 1 k h' a' (dN l xs.l)→(∀ c,c<k→c≠V→h'.get c=h.get c)→h.next≤h'.next→K (.ret (.tuple [])) h'=true):Sem Tryz.prog 154 [aq encS 1 xs,.ptr V 0] h K:=by
 refine F.og ?_
 rw [F.oS]
 simp only [aQ,Nat.reduceAdd,Nat.reduceEqDiff,reduceIte]
 refine aE 0 xs.l.length (Nat.zero_le _) (fun i e h'=>∃ a',h'.get V=some (.cells [a'])∧Own encS 1 k h' a' (dN l (xs.l.take i))∧(∀ c,c<k→c≠V→h'.get c=h.get c)∧h.next≤h'.next ∧
  e 1 = .ptr V 0∧e 5=aq encS 1 xs∧e 6 = .int .i64 (xs.l.length:Int)∧e 7 = .int .i64 (i:Int)) ⟨a,hV,by simpa [dN] using o,fun _ _ _=>rfl,Nat.le_refl _,rfl,rfl,rfl,rfl⟩ ?_ ?_
 ·rintro i e h' _ hi ⟨a',gV,o',fr,hn',e1,e5,e6,e7⟩ K' hn hx hr hp
  have hv:xs.l[i]?=some xs.l[i]:=List.getElem?_eq_getElem hi
  generalize xs.l[i]=s at hv
  have hlb:(dN l (xs.l.take i)).length≤100000000:=by
   have h1:=lH (xs.l.take i) l
   have h2:=List.length_take_le i xs.l
   omega
  rw [F.cX.aP]
  simp only [e1,e5,e6,e7,aQ,Nat.reduceAdd,Nat.reduceEqDiff,reduceIte,bf hi,aT xs hi,gC hv,ak gV]
  refine an (BX o' (by unfold cy;omega) ?_)
  simp only [aQ,Nat.reduceAdd,Nat.reduceEqDiff,reduceIte]
  have hstep:=vt (o:=l) hv
  unfold yM at hstep
  cases hq:(dN l (xs.l.take i)).any fun x=>s==x with
  |true=>
   rw [hq,if_pos rfl] at hstep
   simp only [Bool.not_true,aC,aK hi (show xs.l.length≤cy by unfold cy;omega),bindO_some]
   exact hn _ _ ⟨a',gV,by rw [hstep];exact o',fr,hn',e1,e5,e6,rfl⟩
  |false=>
   rw [hq,if_neg (by simp)] at hstep
   obtain ⟨a2,h2,p1,p2,p3,p4,p5,p6⟩:=o'.push fI lF (by omega) (bytes:=16) (by unfold cZ;omega) s
   have gV2:h2.get V=some (.cells [a']):=by
    rw [p3 V (by omega) (fun hb=>by have:=o'.ge hb;omega)];exact gV
   have hst:=Gj p2 gV2
   simp only [Bool.not_false,aD,e1,ak gV,aQ,Nat.reduceAdd,Nat.reduceEqDiff,reduceIte,Ls,p1,hst,aK hi (show xs.l.length≤cy by unfold cy;omega)]
   refine hn _ _ ⟨a2,by rw [af.aS,if_pos rfl],by rw [hstep];exact p2.mF hVk _,fun c hc hcV=>?_,by rw [af.next_set];omega,e1,e5,e6,rfl⟩
   rw [af.aS,if_neg hcV,p3 c (by omega) (fun hb=>by have:=o'.ge hb;omega),fr c hc hcV]
 ·rintro e h' ⟨a',gV,o',fr,hn',e1,e5,e6,e7⟩ K' hx
  rw [F.cX.aP]
  simp only [e6,e7,aQ,Nat.reduceAdd,Nat.reduceEqDiff,reduceIte,aR]
  rw [hx,F.cX.aG]
  rw [List.take_of_length_le (Nat.le_refl _)] at o'
  exact hK a' h' gV o' fr hn'
def ij(o:List bA)(cs:List dI):List bA:=cs.foldl (fun o c=>dN o c.args.l) o
def varsOf(r:aJ):List bA:=ij (dN [] r.args.l) r.body.l
def aJ.lR(r:aJ):Prop:=r.args.l.length≤1500∧r.body.l.length≤1500∧∀ c ∈ r.body.l,c.args.l.length≤1500
theorem Ab{o:List bA}{cs:List dI}{i:Nat}{c:dI}(hc:cs[i]?=some c):ij o (cs.take (i+1))=dN (ij o (cs.take i)) c.args.l:=by
 unfold ij;rw [List.take_add_one,hc];simp
theorem tG:∀ (cs:List dI) (o:List bA),(∀ c ∈ cs,c.args.l.length≤1500)→(ij o cs).length≤o.length+cs.length*1500
 |[],o,_=>by simp [ij]
 |c :: cs,o,h=>by
  have h1:=tG cs (dN o c.args.l) fun d hd=>h d (List.mem_cons_of_mem _ hd)
  have h2:=lH c.args.l o
  have h3:=h c List.mem_cons_self
  show (ij (dN o c.args.l) cs).length≤_
  rw [List.length_cons];omega
theorem C8{r:aJ}(hf:r.lR)(i:Nat):(ij (dN [] r.args.l) (r.body.l.take i)).length≤3000000:=by
 have h1:=tG (r.body.l.take i) (dN [] r.args.l) fun c hc=>hf.2.2 c (List.mem_of_mem_take hc)
 have h2:=lH r.args.l []
 have h3:=List.length_take_le i r.body.l
 have h4:=List.length_take_le' i r.body.l
 have:=hf.1;have:=hf.2.1
 simp only [List.length_nil] at h2
 omega
theorem cF{r:aJ}(hf:r.lR){h:af}{K:Out→af→Bool}(hK:∀ x:Sl bA,x.l=varsOf r→K (.ret (aq encS 1 x)) h=true) :
  Sem Tryz.prog 108 [.agg [.str r.name,aq encS 1 r.args,aq bJ 4 r.body]] h K:=by
 have main:Sem Tryz.prog 108 [.agg [.str r.name,aq encS 1 r.args,aq bJ 4 r.body]] af.empty (fun o h'=>yes (∃ v,∃ x:Sl bA,o = .ret v∧x.l=varsOf r∧Fz true h' v (aq encS 1 x))):=by
  refine F.qJ ?_
  rw [F.rQ]
  have hb:ef (.agg [.str r.name,aq encS 1 r.args,aq bJ 4 r.body])=some (aM r):=cI (ji r)
  simp only [hb,bindO_some,bM,af.next_alloc]
  have g0:(af.alloc (af.alloc af.empty (.cells (aM r))) (.cells [.nils])).get 0=some (.cells (aM r)):=by simp [af.aX,bM]
  have g1:(af.alloc (af.alloc af.empty (.cells (aM r))) (.cells [.nils])).get 1=some (.cells [.nils]):=by simp [af.aX,bM]
  have gn:(af.alloc (af.alloc af.empty (.cells (aM r))) (.cells [.nils])).next=2:=rfl
  generalize (af.alloc (af.alloc af.empty (.cells (aM r))) (.cells [.nils]))=H at g0 g1 gn ⊢
  simp only [aQ,Nat.reduceAdd,Nat.reduceEqDiff,reduceIte,ak g0,aM]
  refine an (vu g1 (by omega) (Own.nil (k:=2)) (by omega) (by have:=hf.1;simp only [List.length_nil];omega) fun a h1 q1 q2 q3 q4=>?_)
  have g0':h1.get 0=some (.cells (aM r)):=by rw [q3 0 (by omega) (by omega)];exact g0
  simp only [aQ,Nat.reduceAdd,Nat.reduceEqDiff,reduceIte,ak g0',aM]
  refine aE 0 r.body.l.length (Nat.zero_le _) (fun i e h'=>∃ a',h'.get 1=some (.cells [a'])∧Own encS 1 2 h' a' (ij (dN [] r.args.l) (r.body.l.take i))∧2≤h'.next ∧
   e 3 = .ptr 1 0∧e 4 = .func 154 [] [.ptr 1 0]∧e 14=aq bJ 4 r.body∧e 15 = .int .i64 (r.body.l.length:Int)∧e 16 = .int .i64 (i:Int)) ⟨a,q1,by simpa [ij] using q2,by omega,rfl,rfl,rfl,rfl,rfl⟩ ?_ ?_
  ·rintro i e h' _ hi ⟨a',gV,o',hn',e3,e4,e14,e15,e16⟩ K' hn hx hr hp
   have hv:r.body.l[i]?=some r.body.l[i]:=List.getElem?_eq_getElem hi
   generalize r.body.l[i]=c at hv
   have hc15:=hf.2.2 c (List.mem_of_getElem? hv)
   obtain ⟨H2,hs,k1,ko,kn⟩:=cJ (h:=h') (zs:=[.int .i64 0,.bool false,.str [],.nils]) (cs:=bJ c) (n:=4) rfl rfl (fY c)
   have x2:bK h' H2:=⟨by omega,fun b hb=>ko b (by omega)⟩
   have gV2:H2.get 1=some (.cells [a']):=by rw [x2.get 1 (by omega)];exact gV
   rw [F.cF.aP]
   simp only [e3,e4,e14,e15,e16,aQ,Nat.reduceAdd,Nat.reduceEqDiff,reduceIte,bf hi,aT r.body hi,c8 fX hv,hs]
   simp only [aQ,Nat.reduceAdd,Nat.reduceEqDiff,reduceIte,ak k1,bJ,callV_func,List.nil_append,List.cons_append]
   refine an (vu (xs:=c.args) gV2 (by omega) (o'.ext x2) (by omega) (by have:=C8 hf i;omega) fun a3 h3 s1 s2 s3 s4=>?_)
   simp only [aQ,Nat.reduceAdd,Nat.reduceEqDiff,reduceIte,aK hi (show r.body.l.length≤cy by have:=hf.2.1;unfold cy;omega)]
   refine hn _ _ ⟨a3,s1,by rw [Ab hv];exact s2,by omega,e3,e4,e14,e15,rfl⟩
  ·rintro e h' ⟨a',gV,o',hn',e3,e4,e14,e15,e16⟩ K' hx
   rw [F.cF.aP]
   simp only [e15,e16,aQ,Nat.reduceAdd,Nat.reduceEqDiff,reduceIte,aR]
   rw [hx,F.cF.aG]
   simp only [e3,aQ,Nat.reduceAdd,Nat.reduceEqDiff,reduceIte,ak gV]
   rw [List.take_of_length_le (Nat.le_refl _)] at o'
   obtain ⟨x,hx1,hx2⟩:=o'.Ez (fun v y hy=>by
    simp only [encS,List.mem_cons,List.not_mem_nil,or_false] at hy
    subst hy;exact .scalar _ rfl)
   exact cz.2 ⟨a',x,rfl,hx1,hx2⟩
 refine main.frozen (by have:=eC r;simpa [aM,AV.pureL,AV.pure] using this) fun o h' ho=>?_
 obtain ⟨v,x,rfl,hx,hfz⟩:=cz.1 ho
 exact ⟨v,_,rfl,hfz,hK x hx⟩
end
end Go.AM
namespace Go.AM
open Go Go.Proofs
noncomputable section
theorem bF(b o:Nat):bY (.ptr b o)=some (.ptr b o):=rfl
theorem C9{d:TypeDesc}{k:AV}:∀ {es:List Entry} {i j:Nat} {v:AV},gJ d k es i=some (some (j,v))→∃ n e,j=i+n∧es[n]?=some e
 |[],i,j,v,h=>by simp [gJ] at h
 |e :: es,i,j,v,h=>by
  simp only [gJ] at h
  split at h
  ·cases h;exact ⟨0,e,rfl,rfl⟩
  ·obtain ⟨n,f,h1,h2⟩:=C9 h
   exact ⟨n+1,f,by omega,by simpa using h2⟩
  ·cases h
theorem vw:∀ {es:List Entry} {i j:Nat} {e:Entry},(es.map (·.2.2)).Nodup→es[i]?=some e→kX (e.2.2:Int) es j=some (j+i)
 |[],i,j,e,_,h=>by simp at h
 |f :: es,0,j,e,_,h=>by
  simp only [List.getElem?_cons_zero,Option.some.injEq] at h
  subst h;simp [kX]
 |f :: es,i+1,j,e,hn,h=>by
  rw [List.map_cons,List.nodup_cons] at hn
  rw [List.getElem?_cons_succ] at h
  have hne:¬ ((f.2.2:Int)=(e.2.2:Int)):=fun heq=>hn.1 (by
   have:f.2.2=e.2.2:=by omega
   rw [this];exact List.mem_map_of_mem (List.mem_of_getElem? h))
  rw [kX,if_neg hne,vw hn.2 h]
  congr 1;omega
theorem Gk{b:Nat}{h:af}{es:List Entry}{ck:Nat}{m:cS}(hb:h.get b=some (.map es ck))(hm:iA es m)(hB:ig es ck){k:bA}{q:Int}(hk:m.find k=some q)(v:Int) :
  ∃ es' born,je .string (.int .i64 0) (.map b) (.str k) h=some (.tuple [.int .i64 q,.int .i64 born],h)∧gi (.map b) (.int .i64 born) (.int .i64 v) h=some (h.set b (.map es' ck))∧iA es' (m.nA k v)∧ig es' ck:=by
 obtain ⟨r,hr,hm'⟩:=iA.gJ (k:=k) 0 hm
 cases r with
 |none=>simp only at hm';rw [hk] at hm';cases hm'
 |some jv=>
  obtain ⟨n,q',hj,b',c,_,e⟩:=hm'
  obtain ⟨j,w⟩:=jv
  simp only [Nat.zero_add] at hj c
  subst hj;subst c
  rw [hk] at b';cases b'
  obtain ⟨n,f,h1,h2⟩:=C9 hr
  rw [Nat.zero_add] at h1;subst h1
  refine ⟨dV es j (.int .i64 v),(f.2.2:Int),?_,?_,e v,hB.set _ _⟩
  ·simp only [je,hb,mK,mJ,if_true,hr,Bo,h2]
  ·have:=vw (j:=0) hB.nodup h2
   rw [Nat.zero_add] at this
   simp only [gi,hb,this]
structure dZ (hs:List bA) (h:af) (M:Nat) (ks:List bA) (lv:Lev.Lv):Prop where
 ex:∃ es ck m,h.get M=some (.map es ck)∧iA es m∧ig es ck∧m.map (·.1)=ks∧∀ x,m.find x=if x ∈ hs then some (lv x:Int) else none
theorem dZ.keep{hs:List bA}{h h':af}{M:Nat}{ks:List bA}{lv:Lev.Lv}(l:dZ hs h M ks lv)(he:h'.get M=h.get M):dZ hs h' M ks lv:=by
 obtain ⟨es,ck,m,h1,h2⟩:=l.ex
 exact ⟨es,ck,m,by rw [he];exact h1,h2⟩
def ec(r:aJ)(c:dI):Lev.Edge:=⟨c.name,if c.neg then 1 else 0,r.name⟩
def jw(hs:List bA)(r:aJ)(c:dI):List Lev.Edge:=if c.kind=0∧c.name ∈ hs then [ec r c] else []
def ki(hs:List bA)(r:aJ)(cs:List dI):List Lev.Edge:=cs.flatMap (jw hs r)
def iE(hs:List bA)(rs:List aJ):List Lev.Edge:=rs.flatMap fun r=>ki hs r r.body.l
theorem vz{hs:List bA}{r:aJ}{cs:List dI}{j:Nat}{c:dI}(hc:cs[j]?=some c):ki hs r (cs.take (j+1))=ki hs r (cs.take j)++jw hs r c:=by
 unfold ki;rw [List.take_add_one,hc];simp
theorem yN{hs:List bA}{rs:List aJ}{i:Nat}{r:aJ}(hr:rs[i]?=some r):iE hs (rs.take (i+1))=iE hs (rs.take i)++ki hs r r.body.l:=by
 unfold iE;rw [List.take_add_one,hr];simp
end
end Go.AM
namespace Go.AM
open Go Go.Proofs
noncomputable section
theorem dZ.look{hs:List bA}{h:af}{M:Nat}{ks:List bA}{lv:Lev.Lv}(l:dZ hs h M ks lv)(k:bA) :
  cV .string (.int .i64 0) true (.map M) (.str k) h=some (.tuple [.int .i64 (if k ∈ hs then (lv k:Int) else 0),.bool (decide (k ∈ hs))]):=by
 obtain ⟨es,ck,m,h1,h2,h3,h4,h5⟩:=l.ex
 rw [nB h1 h2,h5]
 by_cases hk:k ∈ hs<;>simp [hk]
theorem dZ.Lt{hs:List bA}{h:af}{M:Nat}{ks:List bA}{lv:Lev.Lv}(l:dZ hs h M ks lv)(k:bA) :
  cV .string (.int .i64 0) false (.map M) (.str k) h=some (.int .i64 (if k ∈ hs then (lv k:Int) else 0)):=by
 obtain ⟨es,ck,m,h1,h2,h3,h4,h5⟩:=l.ex
 rw [pG h1 h2,h5]
 by_cases hk:k ∈ hs<;>simp [hk]
theorem dZ.PJ{hs:List bA}{h:af}{M:Nat}{ks:List bA}{lv:Lev.Lv}{e:Lev.Edge}(l:dZ hs h M ks lv)(hh:e.h ∈ hs)(hlt:lv e.h<lv e.b+e.w) :
  ∃ born h',je .string (.int .i64 0) (.map M) (.str e.h) h=some (.tuple [.int .i64 (lv e.h:Int),.int .i64 born],h)∧gi (.map M) (.int .i64 born) (.int .i64 ((lv e.b+e.w:Nat):Int)) h=some h' ∧
   dZ hs h' M ks (Lev.fh lv e)∧(∀ b,b≠M→h'.get b=h.get b)∧h'.next=h.next:=by
 obtain ⟨es,ck,m,h1,h2,h3,h4,h5⟩:=l.ex
 have hf:m.find e.h=some (lv e.h:Int):=by rw [h5,if_pos hh]
 obtain ⟨es',born,q1,q2,q3,q4⟩:=Gk h1 h2 h3 hf ((lv e.b+e.w:Nat):Int)
 refine ⟨born,_,q1,q2,⟨es',ck,_,by rw [af.aS,if_pos rfl],q3,q4,?_,fun x=>?_⟩,fun b hb=>by rw [af.aS,if_neg hb],af.next_set _ _ _⟩
 ·rw [C7,if_pos (List.mem_map.2 ⟨_,mV hf,rfl⟩)];exact h4
 ·rw [qz]
  unfold Lev.fh
  rw [if_pos hlt]
  by_cases hx:x=e.h
  ·subst hx;rw [if_pos rfl,if_pos hh,if_pos rfl]
  ·rw [if_neg hx,if_neg hx,h5]
theorem EC{P M:Nat}{A:AV}{rules:Sl aJ}{hs ks:List bA}{lv:Lev.Lv}{N:Nat}{h:af}(hP:h.get P=some (.cells [aq aM 3 rules,A,.map M]))(hl:dZ hs h M ks lv)(hPn:P<h.next)(hMn:M<h.next)
  (hr:rules.l.length≤60) (hb:∀ r ∈ rules.l,r.body.l.length≤20∧r.name ∈ hs) (hN:∀ x,lv x≤N) (hNb:N≤1000000) {K:Out→af→Bool}
  (hK:∀ h',dZ hs h' M ks (Lev.round (iE hs rules.l) lv)→(∀ b,b<h.next→b≠M→h'.get b=h.get b)→h.next≤h'.next→K (.ret (.bool (!decide (Lev.cK (iE hs rules.l) lv)))) h'=true):Sem Tryz.prog 133 [.ptr P 0] h K:=by
 have hPM:P≠M:=fun e=>by
  obtain ⟨es,ck,m,h1,_⟩:=hl.ex
  rw [e,h1] at hP;cases hP
 refine F.nF ?_
 rw [F.oh]
 simp only [aQ,Nat.reduceAdd,Nat.reduceEqDiff,reduceIte,bF,ak hP]
 refine aE 0 rules.l.length (Nat.zero_le _) (fun i e h'=>∃ cur ch,Lev.RS lv cur (iE hs (rules.l.take i)) ch∧dZ hs h' M ks cur∧(∀ x,cur x≤N+i*20)∧(∀ b,b<h.next→b≠M→h'.get b=h.get b)∧h.next≤h'.next ∧
  e 0 = .ptr P 0∧e 3 = .bool ch∧e 13=aq aM 3 rules∧e 14 = .int .i64 (rules.l.length:Int)∧e 15 = .int .i64 (i:Int)) ⟨lv,false,Lev.RS.nil lv,hl,by simpa using hN,fun _ _ _=>rfl,Nat.le_refl _,rfl,rfl,rfl,rfl,rfl⟩ ?_ ?_
 ·rintro i e h' _ hi ⟨cur,ch,rs,la,bd,fr,hn',e0,e3,e13,e14,e15⟩ K' hn hx hr' hp
  have hv:rules.l[i]?=some rules.l[i]:=List.getElem?_eq_getElem hi
  generalize rules.l[i]=r at hv
  obtain ⟨hb20,hin⟩:=hb r (List.mem_of_getElem? hv)
  obtain ⟨H,hs1,g1,go,gn⟩:=cJ (h:=h') (zs:=[.str [],.nils,.nils]) (cs:=aM r) (n:=3) rfl rfl (ji r)
  rw [F.aW.aP]
  simp only [e0,e3,e13,e14,e15,aQ,Nat.reduceAdd,Nat.reduceEqDiff,reduceIte,bf hi,aT rules hi,c8 eP hv,hs1]
  simp only [aQ,Nat.reduceAdd,Nat.reduceEqDiff,reduceIte,ak g1,aM]
  refine aE 0 r.body.l.length (Nat.zero_le _) (fun j e h2=>∃ cur ch,Lev.RS lv cur (iE hs (rules.l.take i)++ki hs r (r.body.l.take j)) ch∧dZ hs h2 M ks cur∧(∀ x,cur x≤N+i*20+j)∧(∀ b,b<h.next→b≠M→h2.get b=h.get b)∧h2.get h'.next=some (.cells (aM r))∧h'.next<h2.next ∧
   e 0 = .ptr P 0∧e 3 = .bool ch∧e 5 = .ptr h'.next 0∧e 13=aq aM 3 rules∧e 14 = .int .i64 (rules.l.length:Int)∧e 15 = .int .i64 (i:Int)∧e 20=aq bJ 4 r.body∧e 21 = .int .i64 (r.body.l.length:Int)∧e 22 = .int .i64 (j:Int))
   ⟨cur,ch,by simpa [ki] using rs,la.keep (go M (by omega)),by simpa using bd,fun b hb1 hb2=>by rw [go b (by omega)];exact fr b hb1 hb2,g1,by omega,e0,e3,rfl,e13,e14,e15,rfl,rfl,rfl⟩ ?_ ?_
  ·rintro j e h2 _ hj ⟨cur,ch,rs,la,bd,fr,gR,hn2,e0,e3,e5,e13,e14,e15,e20,e21,e22⟩ K2 hn2' hx2 hr2 hp2
   have hc:r.body.l[j]?=some r.body.l[j]:=List.getElem?_eq_getElem hj
   generalize r.body.l[j]=c at hc
   obtain ⟨H2,hs2,k1,ko,kn⟩:=cJ (h:=h2) (zs:=[.int .i64 0,.bool false,.str [],.nils]) (cs:=bJ c) (n:=4) rfl rfl (fY c)
   have la2:dZ hs H2 M ks cur:=la.keep (ko M (by omega))
   have gP2:H2.get P=some (.cells [aq aM 3 rules,A,.map M]):=by rw [ko P (by omega),fr P hPn hPM];exact hP
   have gR2:H2.get h'.next=some (.cells (aM r)):=by rw [ko _ (by omega)];exact gR
   have fr2:∀ b,b<h.next→b≠M→H2.get b=h.get b:=fun b hb1 hb2=>by rw [ko b (by omega)];exact fr b hb1 hb2
   have hbig:r.body.l.length≤cy:=by unfold cy;omega
   have hst:=vz (hs:=hs) (r:=r) hc
   rw [F.aW.dc]
   simp only [e0,e3,e5,e13,e14,e15,e20,e21,e22,aQ,Nat.reduceAdd,Nat.reduceEqDiff,reduceIte,bf hj,aT r.body hj,c8 fX hc,hs2]
   simp only [aQ,Nat.reduceAdd,Nat.reduceEqDiff,reduceIte,ak k1,bF,ak gP2,bJ,la2.look,ct]
   by_cases k0:c.kind=0
   ·simp only [decide_eq_true k0,Bool.not_true,aC]
    by_cases hm:c.name ∈ hs
    ·have hed:jw hs r c = [ec r c]:=by unfold jw;rw [if_pos ⟨k0,hm⟩]
     rw [hed] at hst
     simp only [decide_eq_true hm,Bool.not_true,aC,if_pos hm,aQ,Nat.reduceAdd,Nat.reduceEqDiff,reduceIte,ak k1,bJ]
     have J:∀ e':Env,e' 0 = .ptr P 0→e' 3 = .bool ch→e' 5 = .ptr h'.next 0→e' 8 = .int .i64 ((cur c.name+(ec r c).w:Nat):Int)→e' 13=aq aM 3 rules→e' 14 = .int .i64 (rules.l.length:Int)→e' 15 = .int .i64 (i:Int)→e' 20=aq bJ 4 r.body→e' 21 = .int .i64 (r.body.l.length:Int)→e' 22 = .int .i64 (j:Int) →
       F.aW.J0 K2 ⟨e',71,[],H2⟩=true:=by
      intro e' e0 e3 e5 e8 e13 e14 e15 e20 e21 e22
      rw [F.aW.yh]
      simp only [e0,e5,e8,aQ,Nat.reduceAdd,Nat.reduceEqDiff,reduceIte,bF,ak gP2,ak gR2,aM,la2.Lt,if_pos hin]
      by_cases hlt:cur r.name<cur c.name+(ec r c).w
      ·obtain ⟨born,h3,q1,q2,q3,q4,q5⟩:=la2.PJ (e:=ec r c) hin hlt
       have q1':je .string (.int .i64 0) (.map M) (.str r.name) H2=some (.tuple [.int .i64 (cur r.name:Int),.int .i64 born],H2):=q1
       have q2':gi (.map M) (.int .i64 born) (.int .i64 ((cur c.name+(ec r c).w:Nat):Int)) H2=some h3:=q2
       simp only [bf hlt,aD,e0,e5,e8,e22,aQ,Nat.reduceAdd,Nat.reduceEqDiff,reduceIte,bF,ak gP2,ak gR2,aM,q1',q2',aK hj hbig]
       refine hn2' _ _ ⟨_,true,?_,q3,fun x=>?_,fun b hb1 hb2=>by rw [q4 b hb2];exact fr2 b hb1 hb2,?_,by omega,e0,rfl,e5,e13,e14,e15,e20,e21,rfl⟩
       ·rw [hst,← List.append_assoc];exact rs.up hlt
       ·have:=Lev.oC (e:=ec r c) bd (by unfold ec;simp only;split<;>omega) x;omega
       ·rw [q4 _ (by omega)];exact gR2
      ·simp only [decide_eq_false (by omega:¬ ((cur r.name:Int)<((cur c.name+(ec r c).w:Nat):Int))),aC,e22,aK hj hbig,bindO_some]
       exact hn2' _ _ ⟨cur,ch,by rw [hst,← List.append_assoc];exact rs.same hlt,la2,fun x=>by have:=bd x;omega,fr2,gR2,by omega,e0,e3,e5,e13,e14,e15,e20,e21,rfl⟩
     cases hng:c.neg with
     |true=>
      have hw:(ec r c).w=1:=by unfold ec;simp [hng]
      have hadd:=aK (i:=cur c.name) (n:=2000000) (by have:=bd c.name;omega) (by unfold cy;omega)
      simp only [aD,hadd,bindO_some]
      exact J _ e0 e3 e5 (by rw [hw];rfl) e13 e14 e15 e20 e21 e22
     |false=>
      have hw:(ec r c).w=0:=by unfold ec;simp [hng]
      simp only [aC]
      exact J _ e0 e3 e5 (by rw [hw];rfl) e13 e14 e15 e20 e21 e22
    ·have hed:jw hs r c = []:=by unfold jw;rw [if_neg (fun h=>hm h.2)]
     rw [hed,List.append_nil] at hst
     simp only [decide_eq_false hm,Bool.not_false,aD,aK hj hbig,bindO_some]
     exact hn2' _ _ ⟨cur,ch,by rw [hst];exact rs,la2,fun x=>by have:=bd x;omega,fr2,gR2,by omega,e0,e3,e5,e13,e14,e15,e20,e21,rfl⟩
   ·have hed:jw hs r c = []:=by unfold jw;rw [if_neg (fun h=>k0 h.1)]
    rw [hed,List.append_nil] at hst
    simp only [decide_eq_false k0,Bool.not_false,aD,aK hj hbig,bindO_some]
    exact hn2' _ _ ⟨cur,ch,by rw [hst];exact rs,la2,fun x=>by have:=bd x;omega,fr2,gR2,by omega,e0,e3,e5,e13,e14,e15,e20,e21,rfl⟩
  ·rintro e h2 ⟨cur,ch,rs,la,bd,fr,gR,hn2,e0,e3,e5,e13,e14,e15,e20,e21,e22⟩ K2 hx2
   rw [F.aW.dc]
   simp only [e21,e22,aQ,Nat.reduceAdd,Nat.reduceEqDiff,reduceIte,aR]
   rw [hx2,F.aW.cx]
   simp only [e15,aQ,Nat.reduceAdd,Nat.reduceEqDiff,reduceIte,aK hi (show rules.l.length≤cy by unfold cy;omega),bindO_some]
   rw [List.take_of_length_le (Nat.le_refl _),← yN hv] at rs
   exact hn _ _ ⟨cur,ch,rs,la,fun x=>by have:=bd x;omega,fr,by omega,e0,e3,e13,e14,rfl⟩
 ·rintro e h' ⟨cur,ch,rs,la,bd,fr,hn',e0,e3,e13,e14,e15⟩ K' hx
  rw [F.aW.aP]
  simp only [e14,e15,aQ,Nat.reduceAdd,Nat.reduceEqDiff,reduceIte,aR]
  rw [hx,F.aW.aG]
  rw [List.take_of_length_le (Nat.le_refl _)] at rs
  obtain ⟨d1,d2⟩:=rs.done
  simp only [bE,Nat.reduceEqDiff,reduceIte,e3]
  rw [d2]
  rw [d1] at la
  exact hK h' la fr hn'
end
end Go.AM
namespace Go.AM
open Go Go.Proofs
noncomputable section
theorem Pc(x:Sl aJ)(A M:Nat):jo [.nils,.nilm,.nilm] [(0,1),(1,1),(2,1)] [aq aM 3 x,.map A,.map M]=some (.agg [aq aM 3 x,.map A,.map M]):=by cases x<;>rfl
theorem Pd(x:Sl aJ)(A M:Nat):ef (.agg [aq aM 3 x,.map A,.map M])=some [aq aM 3 x,.map A,.map M]:=cI (by simp only [bq,iz];rfl)
def yO(m:cS)(nm:bA)(n:Nat):Option cS:=match m.find nm with
 |none=>some (m.nA nm n)
 |some k=>if k=(n:Int) then some (m.nA nm n) else none
def kG:List dI→cS→Option cS
 |[],m=>some m
 |c :: cs,m=>bif eZ c then (if c.kind=0 then (match yO m c.name c.args.l.length with|none=>none|some m'=>kG cs m') else kG cs m) else none
def dO:List aJ→cS→Option cS
 |[],m=>some m
 |r :: rs,m=>bif jI r.name r.args.l then (match yO m r.name r.args.l.length with
   |none=>none
   |some m1=>if 20<r.body.l.length then none else if 12<(varsOf r).length then none else match kG r.body.l m1 with
    |none=>none
    |some m2=>dO rs m2) else none
theorem AP{α:Type}{l:List α}{i:Nat}{a:α}(h:l[i]?=some a):l.drop i=a :: l.drop (i+1):=by
 have hi:i<l.length:=(List.getElem?_eq_some_iff.1 h).1
 rw [List.drop_eq_getElem_cons hi]
 rw [List.getElem?_eq_getElem hi] at h
 cases h;rfl
theorem dZ.add{hs:List bA}{h:af}{M:Nat}{ks:List bA}(l:dZ hs h M ks (fun _=>0))(hn:ks.Nodup)(nm:bA) :
  ∃ h' ks',dR .string (.map M) (.str nm) (.int .i64 0) h=some h'∧dZ (hs++[nm]) h' M ks' (fun _=>0)∧ks'.Nodup∧(∀ b,b≠M→h'.get b=h.get b)∧h'.next=h.next:=by
 obtain ⟨es,ck,m,h1,h2,h3,h4,h5⟩:=l.ex
 obtain ⟨es',ck',q1,q2⟩:=xS h1 h2 nm 0
 have g:(h.set M (.map es' ck')).get M=some (.map es' ck'):=by rw [af.aS,if_pos rfl]
 refine ⟨_,(m.nA nm 0).map (·.1),q1,⟨es',ck',_,g,q2,rj h1 h3 q1 g,rfl,fun x=>?_⟩,AN (by rw [h4];exact hn) nm 0,fun b hb=>by rw [af.aS,if_neg hb],af.next_set _ _ _⟩
 rw [qz,h5]
 by_cases hx:x=nm
 ·subst hx;simp
 ·simp [hx]
theorem dZ.mem{hs:List bA}{h:af}{M:Nat}{ks:List bA}{lv:Lev.Lv}(l:dZ hs h M ks lv)(x:bA):x ∈ ks↔x ∈ hs:=by
 obtain ⟨es,ck,m,h1,h2,h3,h4,h5⟩:=l.ex
 rw [← h4]
 constructor
 ·intro hx
  obtain ⟨p,hp,rfl⟩:=List.mem_map.1 hx
  have h6:=h5 p.1
  by_cases hh:p.1 ∈ hs
  ·exact hh
  ·rw [if_neg hh] at h6
   unfold cS.find at h6
   rw [Option.map_eq_none_iff,List.find?_eq_none] at h6
   exact absurd (h6 p hp) (by simp)
 ·intro hx
  have h6:=h5 x
  rw [if_pos hx] at h6
  exact List.mem_map.2 ⟨_,mV h6,rfl⟩
theorem dZ.len{hs:List bA}{h:af}{M:Nat}{ks:List bA}{lv:Lev.Lv}(l:dZ hs h M ks lv):bR .map (.map M) h=some (.int .i64 (ks.length:Int)):=by
 obtain ⟨es,ck,m,h1,h2,h3,h4,h5⟩:=l.ex
 have:∀ (es:List Entry) (m:cS),iA es m→es.length=m.length:=by
  intro es
  induction es with
  |nil=>intro m hm;cases m with
   |nil=>rfl
   |cons p m=>exact hm.elim
  |cons e es ih=>intro m hm;cases m with
   |nil=>exact hm.elim
   |cons p m=>rw [List.length_cons,List.length_cons,ih m hm.2.2]
 have hl:=this es m h2
 rw [← h4,List.length_map,← hl]
 simp [bR,jm,h1]
theorem yP:∀ {E:List Lev.Edge} {L:Lev.Lv} {N:Nat},(∀ e ∈ E,e.w≤1)→(∀ x,L x≤N)→∀ x,E.foldl Lev.fh L x≤N+E.length
 |[],L,N,_,h,x=>h x
 |e :: E,L,N,hw,h,x=>by
  have:=yP (E:=E) (L:=Lev.fh L e) (N:=N+1) (fun f hf=>hw f (List.mem_cons_of_mem _ hf)) (Lev.oC h (hw e List.mem_cons_self)) x
  rw [List.length_cons]
  show E.foldl Lev.fh (Lev.fh L e) x≤_
  omega
theorem yQ(hs:List bA)(r:aJ):∀ cs:List dI,(ki hs r cs).length≤cs.length
 |[]=>Nat.le_refl _
 |c :: cs=>by
  have:=yQ hs r cs
  have h1:(jw hs r c).length≤1:=by unfold jw;split<;>simp
  show (jw hs r c++ki hs r cs).length≤_
  rw [List.length_append,List.length_cons];omega
theorem AQ(hs:List bA):∀ rs:List aJ,(∀ r ∈ rs,r.body.l.length≤20)→(iE hs rs).length≤rs.length*20
 |[],_=>Nat.le_refl _
 |r :: rs,h=>by
  have h1:=AQ hs rs fun q hq=>h q (List.mem_cons_of_mem _ hq)
  have h2:=yQ hs r r.body.l
  have h3:=h r List.mem_cons_self
  show (ki hs r r.body.l++iE hs rs).length≤_
  rw [List.length_append,List.length_cons];omega
theorem pI{hs:List bA}{rs:List aJ}{e:Lev.Edge}(he:e ∈ iE hs rs):∃ r ∈ rs,∃ c ∈ r.body.l,c.kind=0∧c.name ∈ hs∧e=ec r c:=by
 obtain ⟨r,hr,he⟩:=List.mem_flatMap.1 he
 obtain ⟨c,hc,he⟩:=List.mem_flatMap.1 he
 unfold jw at he
 split at he
 ·rename_i h;rw [List.mem_singleton] at he;exact ⟨r,hr,c,hc,h.1,h.2,he⟩
 ·cases he
theorem ED(r:aJ)(c:dI):(ec r c).w≤1:=by unfold ec;simp only;split<;>omega
theorem iq:∀ {rs:List aJ} {m m':cS},dO rs m=some m'→∀ r ∈ rs,jI r.name r.args.l=true∧r.body.l.length≤20∧(varsOf r).length≤12
 |[],_,_,_,r,hr=>by cases hr
 |r0 :: rs,m,m',h,r,hr=>by
  rw [dO] at h
  cases ha:jI r0.name r0.args.l with
  |false=>rw [ha] at h;cases h
  |true=>
   rw [ha,cond_true] at h
   split at h
   ·cases h
   ·split at h
    ·cases h
    ·split at h
     ·cases h
     ·split at h
      ·cases h
      ·rcases List.mem_cons.1 hr with rfl|hr
       ·exact ⟨ha,by omega,by omega⟩
       ·exact iq h r hr
def bg(rs:List aJ):List bA:=rs.map (·.name)
def bD(rs:List aJ):List Lev.Edge:=iE (bg rs) rs
structure jx (rs:List aJ):Prop where
 lR:rs.length≤60
 go:∃ m,dO rs []=some m
 lev:∃ k,Lev.cK (bD rs) (Lev.iter (bD rs) k)
theorem rX{rs:List aJ}(h60:rs.length≤60)(h20:∀ r ∈ rs,r.body.l.length≤20):∀ k x,Lev.iter (bD rs) k x≤k*1200
 |0,x=>Nat.zero_le _
 |k+1,x=>by
  have h1:=yP (E:=bD rs) (L:=Lev.iter (bD rs) k) (N:=k*1200) (fun e he=>by obtain ⟨r,_,c,_,_,_,rfl⟩:=pI he;exact ED r c) (rX h60 h20 k) x
  have h2:(bD rs).length≤rs.length*20:=AQ _ rs h20
  show (bD rs).foldl Lev.fh (Lev.iter (bD rs) k) x≤_
  omega
end
end Go.AM
namespace Go.AM
open Go Go.Proofs
noncomputable section
def Gl(m:cS)(nm:bA)(n:Nat):Bool:=match m.find nm with|none=>true|some k=>decide (k=(n:Int))
theorem AR(m:cS)(nm:bA)(n:Nat):yO m nm n=if Gl m nm n=true then some (m.nA nm n) else none:=by
 unfold yO Gl
 cases m.find nm with
 |none=>rfl
 |some k=>by_cases h:k=(n:Int)<;>simp [h]
end
end Go.AM
namespace Go.AM
open Go Go.Proofs
noncomputable section
theorem Da(n:Int):bq (encI n)=true:=rfl
theorem HU(n:Int):fE [.int .i64 0] [(0,1)] [.int .i64 n]=some (encI n):=rfl
theorem Db{s:bA}(h:dB s=true):s.length≤12:=by
 cases s with
 |nil=>exact Nat.zero_le _
 |cons c s=>
  simp only [dB,Bool.and_eq_true] at h
  simp only [decide_eq_true_eq] at h
  omega
theorem rY{nm:bA}{xs:List bA}(h:jI nm xs=true):dB nm=true:=by
 unfold jI at h;rw [Bool.and_eq_true] at h;exact h.1
theorem dZ.PK{hs:List bA}{h:af}{M:Nat}{ks:List bA}{lv:Lev.Lv}(l:dZ hs h M ks lv)(hks:ks.Nodup)(hlen:∀ s ∈ ks,s.length≤1000) :
  ∃ es ck,h.get M=some (.map es ck)∧nC ck es=true∧es.map keyBytes=ks∧es.length=ks.length:=by
 obtain ⟨es,ck,m,h1,h2,h3,h4,h5⟩:=l.ex
 have hk:es.map keyBytes=ks:=by rw [Fu h2,h4]
 refine ⟨es,ck,h1,AO (fun e he=>?_) (by rw [hk];exact hks) h3.nodup,hk,by rw [← hk,List.length_map]⟩
 obtain ⟨p,hp,q1,q2⟩:=h2.mem e he
 exact ⟨⟨p.1,q1,hlen _ (by rw [← h4];exact List.mem_map_of_mem hp)⟩,h3.lt e he⟩
end
end Go.AM
namespace Go.AM
open Go Go.Proofs
noncomputable section
def ey(t:Sl Int):List AV:=[aq encI 1 t]
theorem yR(t:Sl Int):(ey t).length=1:=rfl
theorem mW(t:Sl Int):AV.pureL (ey t)=true:=by simp [ey,AV.pureL,cj jQ]
theorem iC{l:List (Sl Int)}{i:Nat}{t:Sl Int}(ht:l[i]?=some t){h:af}:aj none (.iptr (l.flatMap ey) (i*1)) h=some (aq encI 1 t):=by
 rw [rN yR ht];rfl
section
variable {α:Type} {enc:α→List AV} {sz k:Nat}
end
abbrev PB:=Nat×List Int
def Gm(p:PB):List AV:=[.slice p.1 0 p.2.length 1]
theorem HV(p:PB):(Gm p).length=1:=rfl
theorem HW(p:PB):bq (Gm p)=true:=rfl
structure yS (k:Nat) (h:af) (a:AV) (ps:List PB):Prop where
 own:Own Gm 1 k h a ps
 cell:∀ p ∈ ps,k≤p.1∧p.1<h.next∧dQ a≠some p.1∧h.get p.1=some (.cells (p.2.map iv))
theorem yS.nil(k:Nat)(h:af):yS k h .nils []:=⟨.nil,fun p hp=>by cases hp⟩
theorem yS.ext{k:Nat}{h h':af}{a:AV}{ps:List PB}(n:yS k h a ps)(hx:bK h h'):yS k h' a ps:=
 ⟨n.own.ext hx,fun p hp=>by
  obtain ⟨h1,h2,h3,h4⟩:=n.cell p hp
  exact ⟨h1,Nat.lt_of_lt_of_le h2 hx.next,h3,by rw [hx.get _ h2];exact h4⟩⟩
theorem yS.tV{old:Bool}{k:Nat}{h:af}{a:AV}{ps:List PB}(n:yS k h a ps):∃ x:Sl (Sl Int),x.l.map Sl.l=ps.map (·.2)∧Fz old h a (aq ey 1 x):=by
 obtain ⟨o,hc⟩:=n
 cases o with
 |nil=>exact ⟨none,rfl,.scalar _ rfl⟩
 |row b ps h1 h2 h3=>
  refine ⟨some (ps.map fun p=>some p.2),by simp [List.map_map,Function.comp_def],?_⟩
  have e1:ps.flatMap Gm=ps.map fun p=>AV.slice p.1 0 p.2.length 1:=by
   induction ps with
   |nil=>rfl
   |cons p ps ih=>rw [List.flatMap_cons,List.map_cons];exact congrArg _ (by
     clear ih h3 hc
     induction ps with
     |nil=>rfl
     |cons q ps ih=>rw [List.flatMap_cons,List.map_cons,ih];rfl)
  have e2:(ps.map fun p=>(some p.2:Sl Int)).flatMap ey=ps.map fun p=>aq encI 1 (some p.2):=by
   clear h3 hc e1
   induction ps with
   |nil=>rfl
   |cons q ps ih=>rw [List.map_cons,List.flatMap_cons,List.map_cons,ih];rfl
  rw [e1] at h3
  have hf:Fz old h (.slice b 0 ps.length 1) (.islice (ps.map fun p=>aq encI 1 (some p.2)) 0 ps.length 1):=by
   refine .slice b 0 ps.length 1 _ _ h3 (by simp) fun i x y hx hy=>?_
   rw [List.getElem?_map] at hx hy
   obtain ⟨p,hp,rfl⟩:=Option.map_eq_some_iff.1 hx
   rw [hp] at hy;cases hy
   exact qC (hc p (List.mem_of_getElem? hp)).2.2.2
  have:aq ey 1 (some (ps.map fun p=>(some p.2:Sl Int))) = .islice (ps.map fun p=>aq encI 1 (some p.2)) 0 ps.length 1:=by
   simp only [aq,e2,List.length_map]
  rw [this];exact hf
theorem yS.push{k:Nat}{h:af}{a:AV}{ps:List PB}(n:yS k h a ps)(hk:k≤h.next)(hroom:(ps.length+1)*24≤cZ)(p:PB)(p1:k≤p.1)(p2:p.1<h.next)(p3:dQ a≠some p.1)(p4:h.get p.1=some (.cells (p.2.map iv))) :
  ∃ a' h',cq 1 24 a (.slice h.next 0 1 1) (h.alloc (.cells (Gm p)))=some (a',h')∧yS k h' a' (ps++[p])∧h.next≤h'.next∧(∀ c,c<h.next→dQ a≠some c→h'.get c=h.get c)∧(∀ h0,bK h0 h→h0.next≤k→bK h0 h')∧∀ c,dQ a'=some c→h.next≤c:=by
 obtain ⟨a',h',e1,o1,f1,n1,x1,b1⟩:=n.own.push HV HW hk hroom p
 refine ⟨a',h',e1,⟨o1,fun q hq=>?_⟩,n1,f1,x1,b1⟩
 have hq':k≤q.1∧q.1<h.next∧dQ a≠some q.1∧h.get q.1=some (.cells (q.2.map iv)):=by
  rcases List.mem_append.1 hq with hq|hq
  ·exact n.cell q hq
  ·rw [List.mem_singleton] at hq;subst hq;exact ⟨p1,p2,p3,p4⟩
 obtain ⟨q1,q2,q3,q4⟩:=hq'
 exact ⟨q1,by omega,fun hb=>by have:=b1 _ hb;omega,by rw [f1 _ q2 q3];exact q4⟩
end
end Go.AM
namespace Go.AM
open Go Go.Proofs
noncomputable section
theorem EE{n:Nat}(h1:1≤n){i k:Nat}(h:i≤k):n ^ i≤n ^ k:=Nat.pow_le_pow_right h1 h
theorem pJ(n:Nat):∀ (a b:List Int) (r:Nat),oy n (a++b) r=oy n b (oy n a r)
 |[],_,_=>rfl
 |x :: a,b,r=>pJ n a b _
theorem Fx{n:Nat}:∀ (l:List Int) (r i:Nat),gd n l=true→r<n ^ i→oy n l r<n ^ (i+l.length)
 |[],r,i,_,h=>h
 |x :: l,r,i,hb,h=>by
  simp only [gd,List.all_cons,Bool.and_eq_true,Bool.not_eq_true',decide_eq_false_iff_not] at hb
  have:r*n+x.toNat<n ^ (i+1):=by
   have h1:(r+1)*n≤n ^ i*n:=Nat.mul_le_mul_right n h
   rw [Nat.succ_mul] at h1
   rw [Nat.pow_succ]
   omega
  have:=Fx l (r*n+x.toNat) (i+1) (by rw [gd,List.all_eq_true];simpa using hb.2) this
  rw [List.length_cons,show i+(l.length+1)=i+1+l.length by omega]
  exact this
theorem pK{n:Nat}{l:List Int}(hb:gd n l=true):jH n l<n ^ l.length:=by
 have:=Fx l 0 0 hb (by simp)
 rw [Nat.zero_add] at this
 exact this
theorem HX{n:Nat}{l:List Int}{i:Nat}{v:Int}(hv:l[i]?=some v):jH n (l.take (i+1))=jH n (l.take i)*n+v.toNat:=by
 rw [jH,List.take_add_one,hv,pJ];rfl
theorem KF{n:Int}{l:List Int}(hb:gd n l=true)(i:Nat):gd n (l.take i)=true:=by
 unfold gd at hb ⊢
 rw [List.all_eq_true] at hb ⊢
 exact fun x hx=>hb x (List.mem_of_mem_take hx)
theorem HY{n:Int}{l:List Int}(hb:gd n l=true){i:Nat}{v:Int}(hv:l[i]?=some v):0≤v∧v<n:=by
 unfold gd at hb
 rw [List.all_eq_true] at hb
 have:=hb v (List.mem_of_getElem? hv)
 simp at this;omega
theorem tI{n:Nat}{l:List Int}(hb:gd n l=true)(h1:1≤n)(hc:n ^ l.length≤4096){i:Nat}{v:Int}(hv:l[i]?=some v) :
  aF .mul (.int .i64 ((jH n (l.take i):Nat):Int)) (.int .i64 (n:Int))=some (.int .i64 ((jH n (l.take i)*n:Nat):Int)) ∧
  aF .add (.int .i64 ((jH n (l.take i)*n:Nat):Int)) (.int .i64 v)=some (.int .i64 ((jH n (l.take (i+1)):Nat):Int)):=by
 have hi:i<l.length:=(List.getElem?_eq_some_iff.1 hv).1
 have hlt:jH n (l.take (i+1))<n ^ (l.take (i+1)).length:=pK (KF hb _)
 have hp:n ^ (l.take (i+1)).length≤4096:=Nat.le_trans (EE h1 (by rw [List.length_take];omega)) hc
 obtain ⟨v0,v1⟩:=HY hb hv
 have he:jH n (l.take (i+1))=jH n (l.take i)*n+v.toNat:=HX hv
 have hm:((jH n (l.take i):Nat):Int)*(n:Int)=((jH n (l.take i)*n:Nat):Int):=by rw [Int.natCast_mul]
 have hs:((jH n (l.take i)*n:Nat):Int)+v=((jH n (l.take (i+1)):Nat):Int):=by omega
 exact ⟨by rw [qs (by rw [hm];omega) (by rw [hm];omega),hm],by rw [fJ (by rw [hs];omega) (by rw [hs];omega),hs]⟩
def ee:List Int→List Int→Bool
 |a :: l,b :: m=>if a=b then ee l m else decide (a<b)
 |_,_=>false
structure Rel where
 name:bA
 arity:Int
 tuples:Sl (Sl Int)
structure dP where
 size:Int
 rels:Sl Rel
def Ac(p:Nat→Bool)(n:Nat):Bool:=(List.range n).all p
def jy(n k:Nat)(l:List (Sl Int))(i:Nat):Bool:=match l[i]? with
 |none=>true
 |some t=>decide (t.l.length=k)&&(gd n t.l&&(match i with
  |0=>true
  |j+1=>match l[j]? with
   |none=>true
   |some p=>ee p.l t.l))
def tJ(n k:Nat)(l:List (Sl Int)):Bool:=Ac (jy n k l) l.length
def kj(n:Nat)(r:Rel):Bool:=dB r.name&&(decide (0≤r.arity)&&(decide (r.arity≤12)&&(decide (n ^ r.arity.toNat≤4096)&&tJ n r.arity.toNat r.tuples.l)))
def lI(s:dP)(i:Nat):Bool:=match s.rels.l[i]? with
 |none=>true
 |some r=>kj s.size.toNat r&&!((s.rels.l.take i).any fun q=>q.name==r.name)
def cY(s:dP):Bool:=decide (1≤s.size)&&(decide (s.size≤64)&&(decide (s.rels.l.length≤8)&&Ac (lI s) s.rels.l.length))
theorem Dc{b:Nat}{h:af}{es:List Entry}{ck:Nat}{m:jS}(hb:h.get b=some (.map es ck))(hm:pz es m)(z:AV)(k:bA) :
  cV .string z false (.map b) (.str k) h=some ((m.find k).getD z):=by
 obtain ⟨r,hr,hm'⟩:=pz.gJ (k:=k) 0 hm
 simp only [cV,jm,hb,mK,mJ,if_true,hr]
 cases r with
 |none=>simp at hm';simp [hm']
 |some jv=>
  obtain ⟨n,_,b,_⟩:=hm'
  obtain ⟨j,v⟩:=jv
  simp [b]
def bv(b:Bool):AV:=.bool b
theorem BY{b i:Nat}{h:af}{d:List Bool}{v:Bool}(hb:h.get b=some (.cells (d.map bv)))(hv:d[i]?=some v):aj none (.ptr b i) h=some (.bool v):=by
 rw [ak hb,qq,List.getElem?_map,hv];rfl
theorem Dd{b i:Nat}{h:af}{d:List Bool}{v:Bool}(hb:h.get b=some (.cells (d.map bv)))(hi:i<d.length):bH 1 (.ptr b i) (.bool v) h=some (h.set b (.cells ((d.set i v).map bv))):=by
 rw [dr (n:=1) hb rfl rfl (by simp;omega),List.map_set];rfl
theorem LY(n:Nat):gl [.bool false] n=(List.replicate n false).map bv:=by
 induction n with
 |zero=>rfl
 |succ n ih=>rw [gl,ih];rfl
theorem Fy{n:Nat}(hn:n≤1000000)(h:af):eX 1 1 [.bool false] (.int .i64 (n:Int)) (.int .i64 (n:Int)) h=some (.slice h.next 0 n 1,h.alloc (.cells ((List.replicate n false).map bv))):=by
 have:((n:Int))≤140737488355328:=by omega
 simp [eX,tW,this,LY]
def pL(n:Nat):List (Sl Int)→List Bool→List Bool
 |[],d=>d
 |t :: ts,d=>pL n ts (d.set (jH n t.l) true)
theorem Gn{n:Nat}{l:List (Sl Int)}{i:Nat}{t:Sl Int}(ht:l[i]?=some t)(d:List Bool):pL n (l.drop i) d=pL n (l.drop (i+1)) (d.set (jH n t.l) true):=by
 have h1:=(List.getElem?_eq_some_iff.1 ht).1
 rw [List.drop_eq_getElem_cons h1]
 rw [List.getElem?_eq_getElem h1] at ht
 cases ht;rfl
theorem yT(n:Nat):∀ (l:List (Sl Int)) (d:List Bool),(pL n l d).length=d.length
 |[],_=>rfl
 |t :: l,d=>by rw [pL,yT n l];simp
def bitsOf(n k:Nat)(ts:List (Sl Int)):List Bool:=pL n ts (List.replicate (n ^ k) false)
theorem EF(n k:Nat)(ts:List (Sl Int)):(bitsOf n k ts).length=n ^ k:=by rw [bitsOf,yT];simp
structure dm (D:bA→Option (Nat×List Bool)) (h:af) (B lo:Nat):Prop where
 ex:∃ es ck m,h.get B=some (.map es ck)∧pz es m∧∀ nm,m.find nm=(D nm).map fun p=>.slice p.1 0 p.2.length 1
 blk:∀ nm p,D nm=some p→lo≤p.1∧p.1<h.next∧p.1≠B∧h.get p.1=some (.cells (p.2.map bv))
 inj:∀ nm nm' p p',D nm=some p→D nm'=some p'→p.1=p'.1→nm=nm'
 lt:B<h.next
theorem dm.ext{D:bA→Option (Nat×List Bool)}{h h':af}{B lo:Nat}(b:dm D h B lo)(hx:bK h h'):dm D h' B lo:=by
 obtain ⟨es,ck,m,h1,h2,h3⟩:=b.ex
 refine ⟨⟨es,ck,m,by rw [hx.get _ b.lt];exact h1,h2,h3⟩,fun nm p hp=>?_,b.inj,Nat.lt_of_lt_of_le b.lt hx.next⟩
 obtain ⟨q1,q2,q3,q4⟩:=b.blk nm p hp
 exact ⟨q1,Nat.lt_of_lt_of_le q2 hx.next,q3,by rw [hx.get _ q2];exact q4⟩
def eM(r:Rel):bA×Int×List (List Int):=(r.name,r.arity,r.tuples.l.map Sl.l)
abbrev HZ:=bA×Int×List (List Int)
def LZ(d:HZ):bA×Int:=(d.1,d.2.1)
def iQ(D:bA→Option (Nat×List Bool))(nm:bA)(b:Nat)(d:List Bool):bA→Option (Nat×List Bool):=fun j=>if j=nm then some (b,d) else D j
theorem dm.set{D:bA→Option (Nat×List Bool)}{h:af}{B lo:Nat}(H:dm D h B lo){nm:bA}{p:Nat×List Bool}(hp:D nm=some p){d:List Bool}(hd:d.length=p.2.length):dm (iQ D nm p.1 d) (h.set p.1 (.cells (d.map bv))) B lo:=by
 obtain ⟨es,ck,m,h1,h2,h3⟩:=H.ex
 obtain ⟨k1,k2,k3,k4⟩:=H.blk nm p hp
 refine ⟨⟨es,ck,m,by rw [af.aS,if_neg (Ne.symm k3)];exact h1,h2,fun j=>?_⟩,fun j q hq=>?_,fun j j' q q' hq hq' hqq=>?_,by rw [af.next_set];exact H.lt⟩
 ·rw [h3];unfold iQ
  by_cases e:j=nm
  ·subst e;rw [if_pos rfl,hp,Option.map_some,Option.map_some,hd]
  ·rw [if_neg e]
 ·unfold iQ at hq
  by_cases e:j=nm
  ·rw [if_pos e] at hq;cases hq
   exact ⟨k1,by rw [af.next_set];exact k2,k3,by rw [af.aS,if_pos rfl]⟩
  ·rw [if_neg e] at hq
   obtain ⟨q1,q2,q3,q4⟩:=H.blk j q hq
   exact ⟨q1,by rw [af.next_set];exact q2,q3,by rw [af.aS,if_neg (fun e'=>e (H.inj j nm q p hq hp e'))];exact q4⟩
 ·unfold iQ at hq hq'
  by_cases e:j=nm
  ·by_cases e':j'=nm
   ·rw [e,e']
   ·rw [if_pos e] at hq;rw [if_neg e'] at hq';cases hq
    exact absurd (H.inj nm j' p q' hp hq' hqq).symm e'
  ·by_cases e':j'=nm
   ·rw [if_neg e] at hq;rw [if_pos e'] at hq';cases hq'
    exact absurd (H.inj j nm q p hq hp hqq) e
   ·rw [if_neg e] at hq;rw [if_neg e'] at hq';exact H.inj j j' q q' hq hq' hqq
end
end Go.AM
namespace Go.AM
open Go Go.Proofs
noncomputable section
theorem EG{S n:Nat}{R:AV}{h:af}(hS:h.get S=some (.cells [.int .i64 (n:Int),R]))(h1:1≤n){x:Sl Int}(hx:x.l.length≤12)(hc:n ^ x.l.length≤4096)(hb:gd n x.l=true){K:Out→af→Bool}
  (hK:K (.ret (.int .i64 ((jH n x.l:Nat):Int))) h=true):Sem Tryz.prog 69 [.ptr S 0,aq encI 1 x] h K:=by
 have hbig:x.l.length≤cy:=by unfold cy;omega
 refine F.j6 ?_
 rw [F.kr]
 simp only [aQ,Nat.reduceAdd,Nat.reduceEqDiff,reduceIte]
 refine aE 0 x.l.length (Nat.zero_le _) (fun i e h'=>h'=h∧e 0 = .ptr S 0∧e 5 = .int .i64 ((jH n (x.l.take i):Nat):Int)∧e 8=aq encI 1 x∧e 9 = .int .i64 (x.l.length:Int)∧e 10 = .int .i64 (i:Int)) ⟨rfl,rfl,rfl,rfl,rfl,rfl⟩ ?_ ?_
 ·rintro i e h' _ hi ⟨rfl,e0,e5,e8,e9,e10⟩ K' hn hx' hr hp
  have hv:x.l[i]?=some x.l[i]:=List.getElem?_eq_getElem hi
  rw [F.cE.aP]
  simp only [e0,e5,e8,e9,e10,aQ,Nat.reduceAdd,Nat.reduceEqDiff,reduceIte,bF,ak hS,bf hi,aT x hi,fB hv,(tI hb h1 hc hv).1,(tI hb h1 hc hv).2,aK hi hbig]
  exact hn _ _ ⟨rfl,e0,rfl,e8,e9,rfl⟩
 ·rintro e h' ⟨rfl,e0,e5,e8,e9,e10⟩ K' hx'
  rw [F.cE.aP]
  simp only [e9,e10,aQ,Nat.reduceAdd,Nat.reduceEqDiff,reduceIte,aR]
  rw [hx',F.cE.aG]
  simp only [e5,bE,Nat.reduceEqDiff,reduceIte]
  rw [List.take_of_length_le (Nat.le_refl _)]
  exact hK
def bZ(vs:List Int)(ps:List Nat):List Int:=ps.map fun p=>vs.getD p 0
theorem FA{V n:Nat}{vs:List Int}{h:af}(hV:h.get V=some (.cells (vs.map iv)))(hVn:V<h.next)(hn:n=vs.length){ps:List Nat}{x:Sl Int}(hxp:x.l=ps.map fun (p:Nat)=>(p:Int))(hps:∀ p ∈ ps,p<vs.length)(hpl:ps.length≤1000000){K:Out→af→Bool}
  (hK:∀ h',h'.get h.next=some (.cells ((bZ vs ps).map iv))→bK h h'→h.next<h'.next→K (.ret (.slice h.next 0 ps.length 1)) h'=true):Sem Tryz.prog 124 [.slice V 0 n 1,aq encI 1 x] h K:=by
 subst hn
 have hpb:ps.length≤cy:=by unfold cy;omega
 have hl:x.l.length=ps.length:=by rw [hxp];simp
 refine F.oT ?_
 rw [F.ri]
 simp only [aQ,Nat.reduceAdd,Nat.reduceEqDiff,reduceIte,hl,tE hpl]
 have g0:=aI h (.cells ((List.replicate ps.length (0:Int)).map iv))
 have x0:=bK.alloc h (.cells ((List.replicate ps.length (0:Int)).map iv))
 have n0:(h.alloc (.cells ((List.replicate ps.length (0:Int)).map iv))).next=h.next+1:=af.next_alloc _ _
 generalize h.alloc (.cells ((List.replicate ps.length (0:Int)).map iv))=H at g0 x0 n0 ⊢
 refine aE 0 ps.length (Nat.zero_le _) (fun i e h'=>∃ d:List Int,d.length=ps.length∧d.take i=(bZ vs ps).take i∧h'.get h.next=some (.cells (d.map iv))∧bK h h'∧h.next<h'.next ∧
  e 0 = .slice V 0 vs.length 1∧e 5 = .slice h.next 0 ps.length 1∧e 11=aq encI 1 x∧e 12 = .int .i64 (ps.length:Int)∧e 13 = .int .i64 (i:Int)) ⟨List.replicate ps.length 0,by simp,rfl,g0,x0,by omega,rfl,rfl,rfl,rfl,rfl⟩ ?_ ?_
 ·rintro i e h' _ hi ⟨d,dl,dt,q0,qx,qn,e0,e5,e11,e12,e13⟩ K' hn hx hr hp
  have hv:ps[i]?=some ps[i]:=List.getElem?_eq_getElem hi
  generalize ps[i]=p at hv
  have hv':x.l[i]?=some (p:Int):=by rw [hxp,List.getElem?_map,hv];rfl
  have hpv:=hps p (List.mem_of_getElem? hv)
  have hw:vs[p]?=some (vs.getD p 0):=by rw [List.getD_eq_getElem?_getD,List.getElem?_eq_getElem hpv];rfl
  have qV:h'.get V=some (.cells (vs.map iv)):=by rw [qx.get V hVn];exact hV
  have i1:=aT (enc:=encI) (sz:=1) (k:=.i64) x (i:=i) (by rw [hl];exact hi)
  have l1:=fun h=>fB (x:=x) hv' (h:=h)
  rw [F.eO.aP]
  simp only [e0,e5,e11,e12,e13,aQ,Nat.reduceAdd,Nat.reduceEqDiff,reduceIte,bf hi,i1,l1,j9 hpv,kF qV hw,j9 hi,pg q0 (show i<d.length by omega),aK hi hpb]
  refine hn _ _ ⟨d.set i (vs.getD p 0),by simp [dl],?_,by rw [af.aS,if_pos rfl],qx.set (Nat.le_refl _) _,by rw [af.next_set];exact qn,e0,e5,e11,e12,rfl⟩
  have hpk:(bZ vs ps)[i]?=some (vs.getD p 0):=by unfold bZ;rw [List.getElem?_map,hv];rfl
  rw [List.take_add_one,List.take_add_one,hpk,List.take_set_of_le (Nat.le_refl _),dt,List.getElem?_set,if_pos rfl,if_pos (by omega)]
 ·rintro e h' ⟨d,dl,dt,q0,qx,qn,e0,e5,e11,e12,e13⟩ K' hx
  rw [F.eO.aP]
  simp only [e12,e13,aQ,Nat.reduceAdd,Nat.reduceEqDiff,reduceIte,aR]
  rw [hx,F.eO.aG]
  simp only [e5,bE,Nat.reduceEqDiff,reduceIte]
  have:d=bZ vs ps:=by
   have h1:d.take ps.length=d:=List.take_of_length_le (by omega)
   have h2:(bZ vs ps).take ps.length=bZ vs ps:=List.take_of_length_le (by simp [bZ])
   rw [← h1,dt,h2]
  rw [this] at q0
  exact hK h' q0 qx qn
end
end Go.AM
namespace Go.AM
open Go Go.Proofs
noncomputable section
theorem vA{S n T:Nat}{R:AV}{h:af}(hS:h.get S=some (.cells [.int .i64 (n:Int),R]))(h1:1≤n){t:List Int}(hT:h.get T=some (.cells (t.map iv)))(hx:t.length≤12)(hc:n ^ t.length≤4096)(hb:gd n t=true){K:Out→af→Bool}
  (hK:K (.ret (.int .i64 ((jH n t:Nat):Int))) h=true):Sem Tryz.prog 69 [.ptr S 0,.slice T 0 t.length 1] h K:=by
 have hbig:t.length≤cy:=by unfold cy;omega
 have hl:∀ h,bR .slice (.slice T 0 t.length 1) h=some (.int .i64 (t.length:Int)):=fun _=>rfl
 refine F.j6 ?_
 rw [F.kr]
 simp only [aQ,Nat.reduceAdd,Nat.reduceEqDiff,reduceIte,hl]
 refine aE 0 t.length (Nat.zero_le _) (fun i e h'=>h'=h∧e 0 = .ptr S 0∧e 5 = .int .i64 ((jH n (t.take i):Nat):Int)∧e 8 = .slice T 0 t.length 1∧e 9 = .int .i64 (t.length:Int)∧e 10 = .int .i64 (i:Int)) ⟨rfl,rfl,rfl,rfl,rfl,rfl⟩ ?_ ?_
 ·rintro i e h' _ hi ⟨rfl,e0,e5,e8,e9,e10⟩ K' hn hx' hr hp
  have hv:t[i]?=some t[i]:=List.getElem?_eq_getElem hi
  rw [F.cE.aP]
  simp only [e0,e5,e8,e9,e10,aQ,Nat.reduceAdd,Nat.reduceEqDiff,reduceIte,bF,ak hS,bf hi,j9 hi,kF hT hv,(tI hb h1 hc hv).1,(tI hb h1 hc hv).2,aK hi hbig]
  exact hn _ _ ⟨rfl,e0,rfl,e8,e9,rfl⟩
 ·rintro e h' ⟨rfl,e0,e5,e8,e9,e10⟩ K' hx'
  rw [F.cE.aP]
  simp only [e9,e10,aQ,Nat.reduceAdd,Nat.reduceEqDiff,reduceIte,aR]
  rw [hx',F.cE.aG]
  simp only [e5,bE,Nat.reduceEqDiff,reduceIte]
  rw [List.take_of_length_le (Nat.le_refl _)]
  exact hK
def cN(D:bA→Option (Nat×List Bool))(nm:bA)(r:Nat):Bool:=match D nm with|some p=>p.2.getD r false|none=>false
theorem dm.look{D:bA→Option (Nat×List Bool)}{h:af}{B lo:Nat}(b:dm D h B lo){nm:bA}{p:Nat×List Bool}(hp:D nm=some p):cV .string .nils false (.map B) (.str nm) h=some (.slice p.1 0 p.2.length 1):=by
 obtain ⟨es,ck,m,h1,h2,h3⟩:=b.ex
 rw [Dc h1 h2,h3,hp];rfl
def ej(n:Nat)(look:bA→Nat→Bool)(c:dI)(t:List Int):Bool:=
 (if c.kind=0 then look c.name (jH n t) else if c.kind=1 then decide (t.getD 0 0=t.getD 1 0) else decide (t.getD 0 0<t.getD 1 0)) != c.neg
theorem vB{S B n lo T:Nat}{D:bA→Option (Nat×List Bool)}{h:af}(hS:h.get S=some (.cells [.int .i64 (n:Int),.map B]))(hD:dm D h B lo)(n1:1≤n){c:dI}{t:List Int}(hT:h.get T=some (.cells (t.map iv)))(hTn:T<h.next)(hSn:S<h.next)
  (ht:t.length≤12) (hb:gd n t=true) (hc:c.kind=0→n ^ t.length≤4096∧∃ p,D c.name=some p∧p.2.length=n ^ t.length) (hk:c.kind=1∨c.kind=2→t.length=2) (hkk:c.kind=0∨c.kind=1∨c.kind=2) {K:Out→af→Bool}
  (hK:∀ h',bK h h'→K (.ret (.bool (ej n (cN D) c t))) h'=true):Sem Tryz.prog 129 [.ptr S 0,.agg [.int .i64 c.kind,.bool c.neg,.str c.name,aq encS 1 c.args],.slice T 0 t.length 1] h K:=by
 refine F.om ?_
 rw [F.oU]
 have hbx:ef (.agg [.int .i64 c.kind,.bool c.neg,.str c.name,aq encS 1 c.args])=some (bJ c):=cI (fY c)
 have g0:(af.alloc h (.cells (bJ c))).get h.next=some (.cells (bJ c)):=aI _ _
 have gx:bK h (af.alloc h (.cells (bJ c))):=bK.alloc _ _
 simp only [hbx,bindO_some]
 generalize (af.alloc h (.cells (bJ c)))=H at g0 gx ⊢
 have gS:H.get S=some (.cells [.int .i64 (n:Int),.map B]):=by rw [gx.get S hSn];exact hS
 have gT:H.get T=some (.cells (t.map iv)):=by rw [gx.get T hTn];exact hT
 have gD:=hD.ext gx
 simp only [aQ,Nat.reduceAdd,Nat.reduceEqDiff,reduceIte,ak g0,bJ,ct]
 by_cases k0:c.kind=0
 ·obtain ⟨hpow,p,hp,hpl⟩:=hc k0
  have hrk:jH n t<p.2.length:=by rw [hpl];exact pK hb
  have hbit:p.2[jH n t]?=some (p.2.getD (jH n t) false):=by rw [List.getD_eq_getElem?_getD,List.getElem?_eq_getElem hrk];rfl
  obtain ⟨_,_,_,gp⟩:=gD.blk c.name p hp
  simp only [decide_eq_true k0,aD,aQ,Nat.reduceAdd,Nat.reduceEqDiff,reduceIte,bF,ak gS,ak g0,bJ,gD.look hp]
  refine an (vA gS n1 gT ht hpow hb ?_)
  simp only [aQ,Nat.reduceAdd,Nat.reduceEqDiff,reduceIte,ak gS,ak g0,bJ,gD.look hp,AV.beq_refl,Bool.and_self,Bool.and_true,if_true,j9 hrk,BY gp hbit,wX]
  have hv:ej n (cN D) c t = !(p.2.getD (jH n t) false==c.neg):=by unfold ej cN;rw [if_pos k0,hp];rfl
  rw [← hv]
  exact hK H gx
 ·have h2:t.length=2:=hk (hkk.resolve_left k0)
  have v0:t[0]?=some (t.getD 0 0):=by rw [List.getD_eq_getElem?_getD,List.getElem?_eq_getElem (by omega:0<t.length)];rfl
  have v1:t[1]?=some (t.getD 1 0):=by rw [List.getD_eq_getElem?_getD,List.getElem?_eq_getElem (by omega:1<t.length)];rfl
  have i0:dx 1 (.slice T 0 t.length 1) (.int .i64 0)=some (.ptr T 0):=j9 (i:=0) (by omega)
  have i1:dx 1 (.slice T 0 t.length 1) (.int .i64 1)=some (.ptr T 1):=j9 (i:=1) (by omega)
  simp only [decide_eq_false k0,aC]
  by_cases k1:c.kind=1
  ·simp only [decide_eq_true k1,aD,i0,i1,kF gT v0,kF gT v1,aQ,Nat.reduceAdd,Nat.reduceEqDiff,reduceIte,ak g0,bJ,ct,wX]
   have hv:ej n (cN D) c t = !(decide (t.getD 0 0=t.getD 1 0)==c.neg):=by unfold ej;rw [if_neg k0,if_pos k1];rfl
   rw [← hv]
   exact hK H gx
  ·have k2:c.kind=2:=(hkk.resolve_left k0).resolve_left k1
   simp only [decide_eq_false k1,aC,decide_eq_true k2,aD,i0,i1,kF gT v0,kF gT v1,aQ,Nat.reduceAdd,Nat.reduceEqDiff,reduceIte,ak g0,bJ,wX]
   have hv:ej n (cN D) c t = !(decide (t.getD 0 0<t.getD 1 0)==c.neg):=by unfold ej;rw [if_neg k0,if_neg k1];rfl
   rw [← hv]
   exact hK H gx
end
end Go.AM
namespace Go.AM
open Go Go.Proofs
noncomputable section
theorem Gp{x:Sl bA}{s:bA}(hx:x.l.length≤cy)(hs:s ∈ x.l){h:af}{K:Out→af→Bool}(hK:K (.ret (.int .i64 (x.l.idxOf s:Int))) h=true):Sem Tryz.prog 157 [aq encS 1 x,.str s] h K:=by
 refine F.fK ?_
 rw [F.fR]
 simp only [aQ,Nat.reduceAdd,Nat.reduceEqDiff,reduceIte]
 refine aE 0 x.l.length (Nat.zero_le _) (fun i e h'=>h'=h∧e 0=aq encS 1 x∧e 1 = .str s∧e 7 = .int .i64 (x.l.length:Int)∧e 8 = .int .i64 (i:Int)∧i≤x.l.idxOf s) ⟨rfl,rfl,rfl,rfl,rfl,Nat.zero_le _⟩ ?_ ?_
 ·rintro i e h' _ hi ⟨rfl,e0,e1,e7,e8,ht⟩ K' hn hx' hr hp'
  have hv:x.l[i]?=some x.l[i]:=List.getElem?_eq_getElem hi
  have hlt:x.l.idxOf s<x.l.length:=List.idxOf_lt_length_of_mem hs
  rw [F.bl.aP]
  simp only [e0,e1,e7,e8,aQ,Nat.reduceAdd,Nat.reduceEqDiff,reduceIte,bf hi,aT x hi,gC hv,nJ]
  by_cases hq:s=x.l[i]
  ·simp only [decide_eq_true hq,aD]
   rw [hr,F.bl.bp]
   have:x.l.idxOf s=i:=by
    refine Nat.le_antisymm ?_ ht
    refine Nat.le_of_not_lt fun h=>?_
    have h2:=List.not_of_lt_findIdx (p:=fun a=>a==s) (xs:=x.l) (i:=i) h
    simp [← hq] at h2
   rw [this] at hK;exact hK
  ·simp only [decide_eq_false hq,aC,aK hi hx,bindO_some]
   refine hn _ _ ⟨rfl,e0,e1,e7,rfl,?_⟩
   refine Nat.lt_of_le_of_ne ht fun h=>?_
   have h3:x.l[x.l.idxOf s]=s:=List.getElem_idxOf hlt
   exact hq (by rw [← h3];congr 1;exact h.symm)
 ·rintro e h' ⟨rfl,e0,e1,e7,e8,ht⟩ K' hx'
  have hlt:x.l.idxOf s<x.l.length:=List.idxOf_lt_length_of_mem hs
  omega
def placesOf(vars xs:List bA):List Nat:=xs.map fun s=>vars.idxOf s
theorem De{V:Nat}{h:af}{vars xs:Sl bA}(hV:h.get V=some (.cells [aq encS 1 vars]))(hVn:V<h.next)(hall:∀ s ∈ xs.l,s ∈ vars.l)(hx:xs.l.length≤1000000)(hv:vars.l.length≤cy){K:Out→af→Bool}
  (hK:∀ a h',Own encI 1 h.next h' a ((placesOf vars.l xs.l).map fun (p:Nat)=>(p:Int))→bK h h'→K (.ret a) h'=true):Sem Tryz.prog 156 [aq encS 1 xs,.ptr V 0] h K:=by
 have hxb:xs.l.length≤cy:=by unfold cy;omega
 refine F.rT ?_
 rw [F.tj]
 simp only [aQ,Nat.reduceAdd,Nat.reduceEqDiff,reduceIte]
 refine aE 0 xs.l.length (Nat.zero_le _) (fun i e h'=>∃ a,Own encI 1 h.next h' a ((placesOf vars.l (xs.l.take i)).map fun (p:Nat)=>(p:Int))∧bK h h'∧e 1 = .ptr V 0∧e 4=a∧e 7=aq encS 1 xs∧e 8 = .int .i64 (xs.l.length:Int)∧e 9 = .int .i64 (i:Int)) ⟨.nils,.nil,bK.refl _,rfl,rfl,rfl,rfl,rfl⟩ ?_ ?_
 ·rintro i e h' _ hi ⟨a,o,qx,e1,e4,e7,e8,e9⟩ K' hn hx' hr hp
  have hs:xs.l[i]?=some xs.l[i]:=List.getElem?_eq_getElem hi
  generalize xs.l[i]=s at hs
  have qV:h'.get V=some (.cells [aq encS 1 vars]):=by rw [qx.get V hVn];exact hV
  rw [F.dY.aP]
  simp only [e1,e4,e7,e8,e9,aQ,Nat.reduceAdd,Nat.reduceEqDiff,reduceIte,bf hi,aT xs hi,gC hs,ak qV]
  refine an (Gp hv (hall s (List.mem_of_getElem? hs)) ?_)
  obtain ⟨a2,h2,p1,p2,p3,p4,p5,p6⟩:=o.push lu Da qx.next (bytes:=8) (by have:=List.length_take_le i xs.l;simp only [placesOf,List.length_map];unfold cZ;omega) (vars.l.idxOf s:Int)
  simp only [aQ,Nat.reduceAdd,Nat.reduceEqDiff,reduceIte,e4,HU,p1,e9,aK hi hxb]
  refine hn _ _ ⟨a2,?_,p5 h qx (Nat.le_refl _),e1,rfl,e7,e8,rfl⟩
  have:placesOf vars.l (xs.l.take (i+1))=placesOf vars.l (xs.l.take i)++[vars.l.idxOf s]:=by unfold placesOf;rw [List.take_add_one,hs];simp
  rw [this];simpa using p2
 ·rintro e h' ⟨a,o,qx,e1,e4,e7,e8,e9⟩ K' hx'
  rw [F.dY.aP]
  simp only [e8,e9,aQ,Nat.reduceAdd,Nat.reduceEqDiff,reduceIte,aR]
  rw [hx',F.dY.aG]
  rw [List.take_of_length_le (Nat.le_refl _)] at o
  simp only [e4,bE,Nat.reduceEqDiff,reduceIte]
  exact hK a h' o qx
end
end Go.AM
namespace Go.AM
open Go Go.Proofs
noncomputable section
abbrev RW:=Option (Nat×List Int)
def RW.av:RW→AV
 |none=>.nils
 |some p=>.slice p.1 0 p.2.length 1
def RW.l:RW→List Int
 |none=>[]
 |some p=>p.2
def tK(w:RW):List AV:=[w.av]
theorem Df(w:RW):(tK w).length=1:=rfl
theorem H7(w:RW):bq (tK w)=true:=by cases w<;>rfl
theorem Pe(w:RW):fE [.nils] [(0,1)] [w.av]=some (tK w):=by cases w<;>rfl
theorem H9{k:Nat}{h:af}{a:AV}{l:List Int}(o:Own encI 1 k h a l):∃ w:RW,a=w.av∧w.l=l∧∀ p,w=some p→k≤p.1∧p.1<h.next∧h.get p.1=some (.cells (p.2.map iv)):=by
 cases o with
 |nil=>exact ⟨none,rfl,rfl,fun p hp=>by cases hp⟩
 |row b l h1 h2 h3=>exact ⟨some (b,l),rfl,rfl,fun p hp=>by cases hp;exact ⟨h1,h2,by rw [pe];exact h3⟩⟩
theorem row_one{α:Type}{enc:α→List AV}{sz:Nat}(he:∀ x,(enc x).length=sz){h:af}{b:Nat}{v:α}(hb:h.get b=some (.cells (enc v))):Row enc sz h (.slice b 0 1 sz) [v]:=by
 refine ⟨rfl,?_⟩
 have hl:(enc v).length=sz:=he v
 simp only [iF,hb,if_true,List.length_singleton,Nat.one_mul,Nat.zero_add,hl,Nat.le_refl,List.drop_zero]
 rw [← hl,List.take_length];simp
structure Cg (k:Nat) (h:af) (cW lW:AV) (ws:List RW) (ls:List Int) (held:List RW):Prop where
 oc:Own tK 1 k h cW ws
 ol:Own encI 1 k h lW ls
 ok:∀ w ∈ held,∀ p,w=some p→k≤p.1∧p.1<h.next∧h.get p.1=some (.cells (p.2.map iv))∧dQ cW≠some p.1∧dQ lW≠some p.1
 sep:∀ b,dQ cW=some b→dQ lW≠some b
theorem Cg.ext{k:Nat}{h h':af}{cW lW:AV}{ws:List RW}{ls:List Int}{held:List RW}(t:Cg k h cW lW ws ls held)(hx:bK h h'):Cg k h' cW lW ws ls held:=
 ⟨t.oc.ext hx,t.ol.ext hx,fun w hw p hp=>by
  obtain ⟨q1,q2,q3,q4⟩:=t.ok w hw p hp
  exact ⟨q1,Nat.lt_of_lt_of_le q2 hx.next,by rw [hx.get _ q2];exact q3,q4⟩,t.sep⟩
theorem Cg.hold{k:Nat}{h:af}{cW lW:AV}{ws:List RW}{ls:List Int}{held:List RW}(t:Cg k h cW lW ws ls held){w:RW}{j:Nat}(hj:∀ p,w=some p→j≤p.1∧k≤p.1∧p.1<h.next∧h.get p.1=some (.cells (p.2.map iv)))
  (hc:∀ b,dQ cW=some b→b<j) (hl:∀ b,dQ lW=some b→b<j):Cg k h cW lW ws ls (held++[w]):=
 ⟨t.oc,t.ol,fun v hv p hp=>by
  rcases List.mem_append.1 hv with hv|hv
  ·exact t.ok v hv p hp
  ·rw [List.mem_singleton] at hv;subst hv
   obtain ⟨q1,q2,q3,q4⟩:=hj p hp
   exact ⟨q2,q3,q4,fun h=>by have:=hc _ h;omega,fun h=>by have:=hl _ h;omega⟩,t.sep⟩
theorem Cg.low{k:Nat}{h:af}{cW lW:AV}{ws:List RW}{ls:List Int}{held:List RW}(t:Cg k h cW lW ws ls held){d:Nat}(hd:d<k)(x:iL):Cg k (h.set d x) cW lW ws ls held:=
 ⟨t.oc.mF hd x,t.ol.mF hd x,fun w hw p hp=>by
  obtain ⟨q1,q2,q3,q4⟩:=t.ok w hw p hp
  exact ⟨q1,by rw [af.next_set];exact q2,by rw [af.aS,if_neg (by omega)];exact q3,q4⟩,t.sep⟩
theorem Cg.push{k:Nat}{h:af}{cW lW:AV}{ws:List RW}{ls:List Int}{held:List RW}(t:Cg k h cW lW ws ls held)(hk:k≤h.next)(hw:ws.length≤1000000)(hl:ls.length≤1000000)(w:RW)(x:Int) :
  ∃ c' l' h2 h3,cq 1 24 cW (.slice h.next 0 1 1) ((h.alloc (.cells (tK w))).alloc (.cells (encI x)))=some (c',h2)∧cq 1 8 lW (.slice (h.next+1) 0 1 1) h2=some (l',h3) ∧
   Cg k h3 c' l' (ws++[w]) (ls++[x]) held∧(∀ c,c<k→h2.get c=h.get c∧h3.get c=h.get c)∧h.next≤h3.next:=by
 have g0:((h.alloc (.cells (tK w))).alloc (.cells (encI x))).get h.next=some (.cells (tK w)):=by
  rw [af.aX,af.next_alloc,if_neg (by omega)];exact aI _ _
 have g1:((h.alloc (.cells (tK w))).alloc (.cells (encI x))).get (h.next+1)=some (.cells (encI x)):=aI _ _
 have gx:bK h ((h.alloc (.cells (tK w))).alloc (.cells (encI x))):=(bK.alloc _ _).trans (bK.alloc _ _)
 have gn:((h.alloc (.cells (tK w))).alloc (.cells (encI x))).next=h.next+2:=rfl
 generalize ((h.alloc (.cells (tK w))).alloc (.cells (encI x)))=H at g0 g1 gx gn ⊢
 have tH:=t.ext gx
 have cge:∀ b,dQ cW=some b→k≤b∧b<h.next:=fun b hb=>⟨t.oc.ge hb,t.oc.lt hb⟩
 have lge:∀ b,dQ lW=some b→k≤b∧b<h.next:=fun b hb=>⟨t.ol.ge hb,t.ol.lt hb⟩
 obtain ⟨c',h2,p1,p2,p3,p4,p5⟩:=tH.oc.append Df H7 (row_one Df g0) (by omega) (bytes:=24) (by simp only [List.length_singleton];unfold cZ;omega)
 have cnew:=p5 (by simp)
 have e1:h2.get (h.next+1)=some (.cells (encI x)):=by rw [p3 _ (by omega) (fun hb=>by have:=(cge _ hb).2;omega)];exact g1
 have ol2:Own encI 1 k h2 lW ls:=by
  have o:=tH.ol
  cases o with
  |nil=>exact .nil
  |row b l q1 q2 q3=>exact .row b _ q1 (by omega) (by rw [p3 b q2 (fun hb=>t.sep b hb rfl)];exact q3)
 obtain ⟨l',h3,r1,r2,r3,r4,r5⟩:=ol2.append lu Da (row_one lu e1) (by omega) (bytes:=8) (by simp only [List.length_singleton];unfold cZ;omega)
 have lnew:=r5 (by simp)
 have oc3:Own tK 1 k h3 c' (ws++[w]):=by
  generalize hL:ws++[w]=L at p2
  cases p2 with
  |nil=>exact .nil
  |row b l q1 q2 q3=>exact .row b _ q1 (by omega) (by rw [r3 b q2 (fun hb=>by have:=(lge _ hb).2;have:=cnew b rfl;omega)];exact q3)
 refine ⟨c',l',h2,h3,p1,r1,⟨oc3,r2,fun v hv p hp=>?_,fun b hb hb'=>?_⟩,fun c hc=>?_,by omega⟩
 ·obtain ⟨q1,q2,q3,q4,q5⟩:=t.ok v hv p hp
  have a1:h2.get p.1=some (.cells (p.2.map iv)):=by rw [p3 _ (by omega) q4,gx.get _ q2];exact q3
  refine ⟨q1,by omega,by rw [r3 _ (by omega) q5];exact a1,fun h=>by have:=cnew _ h;omega,fun h=>by have:=lnew _ h;omega⟩
 ·have:=p2.lt hb
  have:=lnew b hb'
  omega
 ·have a1:h2.get c=h.get c:=by rw [p3 c (by omega) (fun hb=>by have:=(cge _ hb).1;omega),gx.get c (by omega)]
  exact ⟨a1,by rw [r3 c (by omega) (fun hb=>by have:=(lge _ hb).1;omega)];exact a1⟩
theorem Ia:∀ ws:List RW,ws.flatMap tK=ws.map RW.av
 |[]=>rfl
 |w :: ws=>by rw [List.flatMap_cons,List.map_cons,Ia ws];rfl
theorem Ib:∀ ws:List RW,(ws.map fun w=>(w.map (·.2):Sl Int)).flatMap ey=ws.map fun w=>aq encI 1 (w.map (·.2))
 |[]=>rfl
 |w :: ws=>by rw [List.map_cons,List.flatMap_cons,List.map_cons,Ib ws];rfl
theorem Cg.tV{k:Nat}{h:af}{cW lW:AV}{ws:List RW}{ls:List Int}{held:List RW}(t:Cg k h cW lW ws ls held)(hs:∀ w ∈ ws,w ∈ held):∃ x:Sl (Sl Int),x.l.map Sl.l=ws.map RW.l∧Fz true h cW (aq ey 1 x):=by
 have hrow:∀ w ∈ held,Fz true h w.av (aq encI 1 (w.map (·.2))):=fun w hw=>by
  cases w with
  |none=>exact .ez rfl
  |some p=>exact qC (t.ok _ hw p rfl).2.2.1
 obtain ⟨o,_,_,_⟩:=t
 cases o with
 |nil=>exact ⟨none,rfl,.ez rfl⟩
 |row b ws h1 h2 h3=>
  refine ⟨some (ws.map fun w=>(w.map (·.2):Sl Int)),?_,?_⟩
  ·simp only [Sl.l_some,List.map_map]
   refine List.map_congr_left fun w _=>?_
   cases w<;>rfl
  ·have e1:=Ia ws
   have e2:=Ib ws
   rw [e1] at h3
   have hf:Fz true h (.slice b 0 ws.length 1) (.islice (ws.map fun w=>aq encI 1 (w.map (·.2))) 0 ws.length 1):=by
    refine .slice b 0 ws.length 1 _ _ h3 (by simp) fun i x y hx hy=>?_
    rw [List.getElem?_map] at hx hy
    obtain ⟨w,hw,rfl⟩:=Option.map_eq_some_iff.1 hx
    rw [hw] at hy;cases hy
    exact hrow w (hs w (List.mem_of_getElem? hw))
   have:aq ey 1 (some (ws.map fun w=>(w.map (·.2):Sl Int))) = .islice (ws.map fun w=>aq encI 1 (w.map (·.2))) 0 ws.length 1:=by
    simp only [aq,e2,List.length_map]
   rw [this];exact hf
end
end Go.AM
namespace Go.AM
open Go Go.Proofs
noncomputable section
def jz(xs:List bA):Bool:=xs.all dB&&decide (xs.length≤12)
theorem de{x:Sl bA}(hx:x.l.length≤cy){h:af}{K:Out→af→Bool}(hK:K (.ret (.bool (jz x.l))) h=true):Sem Tryz.prog 134 [aq encS 1 x] h K:=by
 refine F.vV ?_
 rw [F.yf]
 refine aE 0 x.l.length (Nat.zero_le _) (fun i e h'=>h'=h∧e 0=aq encS 1 x∧e 3 = .int .i64 (i:Int)∧(x.l.take i).all dB=true) ⟨rfl,rfl,rfl,rfl⟩ ?_ ?_
 ·rintro i e h' _ hi ⟨rfl,e0,e3,ht⟩ K' hn hx' hr hp'
  have hv:x.l[i]?=some x.l[i]:=List.getElem?_eq_getElem hi
  generalize x.l[i]=s at hv
  rw [F.de.aP]
  simp only [e0,e3,aQ,Nat.reduceAdd,Nat.reduceEqDiff,reduceIte,bf hi,aT x hi,gC hv]
  refine an (dF ?_)
  simp only [aQ,Nat.reduceAdd,Nat.reduceEqDiff,reduceIte]
  cases hq:dB s with
  |false=>
   simp only [Bool.not_false,aD]
   rw [hr,F.de.bp]
   have:jz x.l=false:=by unfold jz;rw [all_false hv hq,Bool.false_and]
   rw [this] at hK;exact hK
  |true=>
   simp only [Bool.not_true,aC,aK hi hx,bindO_some]
   exact hn _ _ ⟨rfl,e0,rfl,gz hv ht hq⟩
 ·rintro e h' ⟨rfl,e0,e3,ht⟩ K' hx'
  rw [F.de.aP]
  simp only [e0,e3,aQ,Nat.reduceAdd,Nat.reduceEqDiff,reduceIte,aR]
  rw [hx',F.de.aG]
  simp only [e0,aQ,Nat.reduceAdd,Nat.reduceEqDiff,reduceIte]
  rw [List.take_of_length_le (Nat.le_refl _)] at ht
  have:jz x.l=decide ((x.l.length:Int)≤12):=by unfold jz;rw [ht,Bool.true_and];by_cases h:x.l.length≤12<;>simp<;>omega
  rw [this] at hK;exact hK
def pM(r:aJ):List bA:=r.args.l++r.body.l.flatMap fun c=>c.args.l
theorem ry(o a b:List bA):dN o (a++b)=dN (dN o a) b:=by unfold dN;rw [List.foldl_append]
theorem rz:∀ (cs:List dI) (o:List bA),ij o cs=dN o (cs.flatMap fun c=>c.args.l)
 |[],o=>rfl
 |c :: cs,o=>by
  rw [List.flatMap_cons,ry]
  exact rz cs (dN o c.args.l)
theorem yU(r:aJ):varsOf r=dN [] (pM r):=by
 unfold varsOf pM;rw [ry,rz]
theorem Dg{r:aJ}(hf:r.lR)(i:Nat):(r.args.l++(r.body.l.take i).flatMap fun c=>c.args.l).length≤3000000:=by
 have:∀ (cs:List dI),(∀ c ∈ cs,c.args.l.length≤1500)→(cs.flatMap fun c=>c.args.l).length≤cs.length*1500:=by
  intro cs
  induction cs with
  |nil=>intro _;simp
  |cons c cs ih=>
   intro h
   have h1:=ih fun d hd=>h d (List.mem_cons_of_mem _ hd)
   have h2:=h c List.mem_cons_self
   rw [List.flatMap_cons,List.length_append,List.length_cons];omega
 have h1:=this (r.body.l.take i) fun c hc=>hf.2.2 c (List.mem_of_mem_take hc)
 have h2:=List.length_take_le i r.body.l
 have h4:=List.length_take_le' i r.body.l
 have:=hf.1;have:=hf.2.1
 rw [List.length_append];omega
theorem bC{r:aJ}(hf:r.lR){h:af}{K:Out→af→Bool}(hK:∀ x:Sl bA,x.l=varsOf r→K (.ret (aq encS 1 x)) h=true) :
  Sem Tryz.prog 44 [.agg [.str r.name,aq encS 1 r.args,aq bJ 4 r.body]] h K:=by
 have hbb:r.body.l.length≤cy:=by have:=hf.2.1;unfold cy;omega
 have main:Sem Tryz.prog 44 [.agg [.str r.name,aq encS 1 r.args,aq bJ 4 r.body]] af.empty (fun o h'=>yes (∃ v,∃ x:Sl bA,o = .ret v∧x.l=varsOf r∧Fz true h' v (aq encS 1 x))):=by
  refine F.qL ?_
  rw [F.rS]
  have hb:ef (.agg [.str r.name,aq encS 1 r.args,aq bJ 4 r.body])=some (aM r):=cI (ji r)
  have hrow:fE [] [] []=some []:=rfl
  simp only [hb,hrow,bindO_some,bM,af.next_alloc]
  have g0:(af.alloc (af.alloc af.empty (.cells (aM r))) (.cells [])).get 0=some (.cells (aM r)):=by simp [af.aX,bM]
  have g1:(af.alloc (af.alloc af.empty (.cells (aM r))) (.cells [])).get 1=some (.cells (([]:List bA).flatMap encS)):=by simp [af.aX,bM]
  have gn:(af.alloc (af.alloc af.empty (.cells (aM r))) (.cells [])).next=2:=rfl
  generalize (af.alloc (af.alloc af.empty (.cells (aM r))) (.cells []))=H at g0 g1 gn ⊢
  have o0:Own encS 1 1 H (.slice (0+1) 0 0 1) []:=.row 1 [] (Nat.le_refl _) (by omega) g1
  obtain ⟨a1,h1,p1,p2,p3,p4,p5⟩:=o0.append fI lF (wZ fI r.args H) (by omega) (bytes:=16) (by have:=hf.1;unfold cZ;simp only [List.length_nil];omega)
  have g0':h1.get 0=some (.cells (aM r)):=by rw [p3 0 (by omega) (fun hb=>by simp [dQ] at hb)];exact g0
  simp only [aQ,Nat.reduceAdd,Nat.reduceEqDiff,reduceIte,ak g0,aM]
  simp only [p1,aQ,Nat.reduceAdd,Nat.reduceEqDiff,reduceIte]
  refine aE 0 r.body.l.length (Nat.zero_le _) (fun i e h'=>∃ a,h'.get 0=some (.cells (aM r))∧2≤h'.next∧Own encS 1 1 h' a (r.args.l++(r.body.l.take i).flatMap fun c=>c.args.l)∧e 1 = .ptr 0 0∧e 3=a∧e 4 = .int .i64 (i:Int))
   ⟨a1,g0',by omega,by simpa using p2,rfl,rfl,rfl⟩ ?_ ?_
  ·rintro i e h' _ hi ⟨a,q0,qn,o,e1,e3,e4⟩ K' hn hx hr hp
   have hv:r.body.l[i]?=some r.body.l[i]:=List.getElem?_eq_getElem hi
   generalize r.body.l[i]=c at hv
   have hc:=hf.2.2 c (List.mem_of_getElem? hv)
   obtain ⟨a2,h2,s1,s2,s3,s4,s5⟩:=o.append fI lF (wZ fI c.args h') (by omega) (bytes:=16) (by have:=Dg hf i;unfold cZ;omega)
   have ld:∀ j,j<4→∀ h,aj none (.iptr (r.body.l.flatMap bJ) (i*4+j)) h=(bJ c)[j]?:=fun j hj h=>eN fX hv hj
   rw [F.bC.aP]
   simp only [e1,e3,e4,aQ,Nat.reduceAdd,Nat.reduceEqDiff,reduceIte,ak q0,aM,bf hi,aT r.body hi]
   simp only [aQ,Nat.reduceAdd,Nat.reduceEqDiff,reduceIte,Nat.add_assoc,Nat.reduceAdd,ld 3 (by omega),bJ,s1,aK hi hbb]
   refine hn _ _ ⟨a2,?_,by omega,?_,e1,rfl,rfl⟩
   ·rw [s3 0 (by omega) (fun hb=>by have:=o.ge hb;omega)];exact q0
   ·rw [List.take_add_one,hv,List.flatMap_append,← List.append_assoc];simpa using s2
  ·rintro e h' ⟨a,q0,qn,o,e1,e3,e4⟩ K' hx
   rw [List.take_of_length_le (Nat.le_refl _)] at o
   have hal:(pM r).length≤3000000:=by have:=Dg hf r.body.l.length;rw [List.take_of_length_le (Nat.le_refl _)] at this;exact this
   have hab:(pM r).length≤cy:=by unfold cy;omega
   have o':Own encS 1 1 h' a (pM r):=o
   rw [F.bC.aP]
   simp only [e1,e4,aQ,Nat.reduceAdd,Nat.reduceEqDiff,reduceIte,ak q0,aM,aR]
   rw [hx,F.bC.aG]
   refine aE 0 (pM r).length (Nat.zero_le _) (fun i e h2=>∃ b,bK h' h2∧Own encS 1 h'.next h2 b (dN [] ((pM r).take i))∧e 3=a∧e 5=b∧e 6 = .int .i64 (i:Int))
    ⟨.nils,bK.refl _,by simpa [dN] using Own.nil,by simp only [bE,Nat.reduceEqDiff,reduceIte,e3],rfl,rfl⟩ ?_ ?_
   ·rintro i e h2 _ hi ⟨b,x2,ob,e3,e5,e6⟩ K2 hn hx2 hr hp
    have hv:(pM r)[i]?=some (pM r)[i]:=List.getElem?_eq_getElem hi
    generalize (pM r)[i]=s at hv
    have oa:=o'.ext x2
    obtain ⟨q,_,g1,g2⟩:=pE oa hv
    have hlb:(dN [] ((pM r).take i)).length≤3000000:=by
     have h1:=lH ((pM r).take i) []
     have h2:=List.length_take_le' i (pM r)
     simp only [List.length_nil] at h1;omega
    have hcomm:((dN [] ((pM r).take i)).any fun x=>x==s)=(dN [] ((pM r).take i)).any fun x=>s==x:=by
     congr 1;funext x;exact Bool.eq_iff_iff.2 ⟨fun h=>by rw [beq_iff_eq] at h ⊢;exact h.symm,fun h=>by rw [beq_iff_eq] at h ⊢;exact h.symm⟩
    have hstep:=vt (o:=[]) hv
    unfold yM at hstep
    rw [F.bC.dc]
    simp only [e3,e5,e6,oa.len,aQ,Nat.reduceAdd,Nat.reduceEqDiff,reduceIte,bf hi,g1,g2]
    refine an (cM ob (by unfold cy;omega) ?_)
    rw [hcomm]
    simp only [aQ,Nat.reduceAdd,Nat.reduceEqDiff,reduceIte]
    cases hq:(dN [] ((pM r).take i)).any fun x=>s==x with
    |true=>
     rw [hq,if_pos rfl] at hstep
     simp only [Bool.not_true,aC,aK hi hab,bindO_some]
     exact hn _ _ ⟨b,x2,by rw [hstep];exact ob,e3,e5,rfl⟩
    |false=>
     rw [hq,if_neg (by simp)] at hstep
     obtain ⟨b2,h3,p1,p2,p3,p4,p5,p6⟩:=ob.push fI lF x2.next (bytes:=16) (by unfold cZ;omega) s
     simp only [Bool.not_false,aD,e3,e5,e6,g1,g2,aQ,Nat.reduceAdd,Nat.reduceEqDiff,reduceIte,Ls,p1,aK hi hab]
     exact hn _ _ ⟨b2,p5 h' x2 (Nat.le_refl _),by rw [hstep];exact p2,e3,rfl,rfl⟩
   ·rintro e h2 ⟨b,x2,ob,e3,e5,e6⟩ K2 hx2
    have oa:=o'.ext x2
    rw [F.bC.dc]
    simp only [e3,e6,oa.len,aQ,Nat.reduceAdd,Nat.reduceEqDiff,reduceIte,aR]
    rw [hx2,F.bC.cx]
    rw [List.take_of_length_le (Nat.le_refl _),← yU] at ob
    simp only [bE,Nat.reduceEqDiff,reduceIte,e5]
    obtain ⟨x,hx1,hx2⟩:=ob.Ez (fun v y hy=>by
     simp only [encS,List.mem_cons,List.not_mem_nil,or_false] at hy
     subst hy;exact .scalar _ rfl)
    exact cz.2 ⟨b,x,rfl,hx1,hx2⟩
 refine main.frozen (by have:=eC r;simpa [aM,AV.pureL,AV.pure] using this) fun o h' ho=>?_
 obtain ⟨v,x,rfl,hx,hfz⟩:=cz.1 ho
 exact ⟨v,_,rfl,hfz,hK x hx⟩
end
end Go.AM
namespace Go.AM
open Go Go.Proofs
noncomputable section
def FB(a b:Int):Int:=if b>a then b else a
theorem Dh(a b:Int):qW true (.int .i64 a) [.int .i64 b]=some (.int .i64 (FB a b)):=by simp [qW,DX,FB]
def fS(ps:List Nat):Int:=ps.foldl (fun a (p:Nat)=>FB a (p:Int)) (-1)
theorem Ic{o:List bA}{t s:bA}:s ∈ yM o t↔s ∈ o∨s=t:=by
 unfold yM
 split
 ·rename_i h
  obtain ⟨x,hx,hq⟩:=List.any_eq_true.1 h
  rw [beq_iff_eq] at hq
  exact ⟨.inl,fun h=>h.elim id fun e=>by rw [e,hq];exact hx⟩
 ·simp
theorem yV{s:bA}:∀ {l o:List bA},s ∈ dN o l↔s ∈ o∨s ∈ l
 |[],o=>by simp [dN]
 |t :: l,o=>by
  show s ∈ dN (yM o t) l↔_
  rw [yV,Ic,List.mem_cons,or_assoc]
theorem Di{r:aJ}{s:bA}:s ∈ varsOf r↔s ∈ pM r:=by rw [yU,yV];simp
theorem kM{r:aJ}:∀ s ∈ r.args.l,s ∈ varsOf r:=fun s hs=>Di.2 (List.mem_append_left _ hs)
theorem mX{r:aJ}{c:dI}(hc:c ∈ r.body.l):∀ s ∈ c.args.l,s ∈ varsOf r:=fun s hs=>Di.2 (List.mem_append_right _ (List.mem_flatMap.2 ⟨c,hc,hs⟩))
def gq(vars xs:List bA):List Int:=(placesOf vars xs).map fun (p:Nat)=>(p:Int)
theorem Ie(i n:Int)(nm:bA)(xs:Sl bA)(ys:Sl dI)(w:RW):jo [.int .i64 0,.str [],.nils,.nils,.int .i64 0,.nils,.nils,.nils] [(0,1),(1,3),(4,1),(5,1)] [.int .i64 i,.agg [.str nm,aq encS 1 xs,aq bJ 4 ys],.int .i64 n,w.av]=some (.agg [.int .i64 i,.str nm,aq encS 1 xs,aq bJ 4 ys,.int .i64 n,w.av,.nils,.nils]):=by
 cases xs<;>cases ys<;>cases w<;>rfl
theorem Ig(s:St):eL Tryz.prog s Tryz.f109.results.toList=(match aj (some 8) (s.env 4) s.h,(some []:Option (List AV)) with|some v,some vs=>some (v :: vs)|_,_=>none):=by kernel_rfl
theorem FC(a b c d e f g i:AV):gh (some 8) [a,b,c,d,e,f,g,i] 0=some (.agg [a,b,c,d,e,f,g,i]):=rfl
def bx(i:Int)(r:aJ)(n:Int)(hd c l:AV):List AV:=[.int .i64 i,.str r.name,aq encS 1 r.args,aq bJ 4 r.body,.int .i64 n,hd,c,l]
theorem Dj(i:Int)(r:aJ)(n:Int)(w:RW){c l:AV}(hc:bq [c]=true)(hl:bq [l]=true):bq (bx i r n w.av c l)=true:=by
 have hw:w.av.one=true:=by cases w<;>rfl
 unfold bx
 simp only [bq,Bool.and_true] at hc hl ⊢
 simp only [iz,hw,hc,hl,Bool.and_true];rfl
theorem Ih{P:Nat}{h:af}{cs vs:List AV}(hP:h.get P=some (.cells cs))(hc:cs.length=8)(hv:vs.length=8)(h1:bq vs=true):bH 8 (.ptr P 0) (.agg vs) h=some (h.set P (.cells vs)):=by
 rw [dr hP (by exact hv) (by exact h1) (by omega)]
 congr 1
 match cs,hc,vs,hv with
 |[a,b,c,d,e,f,g,i],_,[a',b',c',d',e',f',g',i'],_=>rfl
set_option maxHeartbeats 2000000 in
theorem cc{i0:Int}{r:aJ}(hf:r.lR){h:af}{K:Out→af→Bool}
  (hK:∀ (hd:Sl Int) (cs:Sl (Sl Int)) (ls:Sl Int),hd.l=gq (varsOf r) r.args.l→cs.l.map Sl.l=r.body.l.map (fun c=>gq (varsOf r) c.args.l)→ls.l=r.body.l.map (fun c=>fS (placesOf (varsOf r) c.args.l)) →
   K (.ret (.agg (bx i0 r (varsOf r).length (aq encI 1 hd) (aq ey 1 cs) (aq encI 1 ls)))) h=true) :
  Sem Tryz.prog 109 [.int .i64 i0,.agg [.str r.name,aq encS 1 r.args,aq bJ 4 r.body]] h K:=by
 have hbb:r.body.l.length≤cy:=by have:=hf.2.1;unfold cy;omega
 have hvl:(varsOf r).length≤3000000:=by have:=C8 hf r.body.l.length;rw [List.take_of_length_le (Nat.le_refl _)] at this;exact this
 have gen:∀ R:Out→af→Bool,(∀ (h':af) (hdW:RW) (cW lW:AV) (cs:Sl (Sl Int)) (ls:Sl Int),Fz true h' hdW.av (aq encI 1 (hdW.map (·.2)))→hdW.l=gq (varsOf r) r.args.l→Fz true h' cW (aq ey 1 cs)→Fz true h' lW (aq encI 1 ls) →
   cs.l.map Sl.l=r.body.l.map (fun c=>gq (varsOf r) c.args.l)→ls.l=r.body.l.map (fun c=>fS (placesOf (varsOf r) c.args.l))→R (.ret (.agg (bx i0 r (varsOf r).length hdW.av cW lW))) h'=true) →
   Sem Tryz.prog 109 [.int .i64 i0,.agg [.str r.name,aq encS 1 r.args,aq bJ 4 r.body]] af.empty R:=by
  intro R fin
  refine F.uy ?_
  rw [F.vZ]
  have hb:ef (.agg [.str r.name,aq encS 1 r.args,aq bJ 4 r.body])=some (aM r):=cI (ji r)
  simp only [hb,bindO_some,bM,af.next_alloc]
  have g0:(af.alloc (af.alloc af.empty (.cells (aM r))) (.cells [.int .i64 0,.str [],.nils,.nils,.int .i64 0,.nils,.nils,.nils])).get 0=some (.cells (aM r)):=by simp [af.aX,bM]
  have g1:(af.alloc (af.alloc af.empty (.cells (aM r))) (.cells [.int .i64 0,.str [],.nils,.nils,.int .i64 0,.nils,.nils,.nils])).get 1=some (.cells [.int .i64 0,.str [],.nils,.nils,.int .i64 0,.nils,.nils,.nils]):=by simp [af.aX,bM]
  have gn:(af.alloc (af.alloc af.empty (.cells (aM r))) (.cells [.int .i64 0,.str [],.nils,.nils,.int .i64 0,.nils,.nils,.nils])).next=2:=rfl
  generalize (af.alloc (af.alloc af.empty (.cells (aM r))) (.cells [.int .i64 0,.str [],.nils,.nils,.int .i64 0,.nils,.nils,.nils]))=H at g0 g1 gn ⊢
  simp only [ak g0,aM,nL,bindO_some]
  refine an (cF hf fun x hx1=>?_)
  have hxb:x.l.length≤cy:=by rw [hx1];unfold cy;omega
  obtain ⟨H3,hs3,k2,ko,kn⟩:=jT (h:=H) (z:=.nils) (v:=aq encS 1 x) (by cases x<;>rfl) (by simp only [bq,iz];rfl)
  have q0:H3.get 0=some (.cells (aM r)):=by rw [ko 0 (by omega)];exact g0
  have q1:H3.get 1=some (.cells [.int .i64 0,.str [],.nils,.nils,.int .i64 0,.nils,.nils,.nils]):=by rw [ko 1 (by omega)];exact g1
  rw [gn] at hs3 k2
  simp only [aQ,Nat.reduceAdd,Nat.reduceEqDiff,reduceIte,gn,hs3]
  simp only [aQ,Nat.reduceAdd,Nat.reduceEqDiff,reduceIte,ak q0,ak k2,aM,nL,show H3.next=3 by omega]
  have gx:=bK.alloc H3 (.cells [.int .i64 0,.str [],.nils,.nils,.int .i64 0,.nils,.nils,.nils])
  have g3:(H3.alloc (.cells [.int .i64 0,.str [],.nils,.nils,.int .i64 0,.nils,.nils,.nils])).get 3=some (.cells [.int .i64 0,.str [],.nils,.nils,.int .i64 0,.nils,.nils,.nils]):=by
   have:=aI H3 (.cells [.int .i64 0,.str [],.nils,.nils,.int .i64 0,.nils,.nils,.nils]);rw [show H3.next=3 by omega] at this;exact this
  have gn3:(H3.alloc (.cells [.int .i64 0,.str [],.nils,.nils,.int .i64 0,.nils,.nils,.nils])).next=4:=by rw [af.next_alloc];omega
  generalize (H3.alloc (.cells [.int .i64 0,.str [],.nils,.nils,.int .i64 0,.nils,.nils,.nils]))=H4 at gx g3 gn3 ⊢
  have p0:H4.get 0=some (.cells (aM r)):=by rw [gx.get 0 (by omega)];exact q0
  have p1:H4.get 1=some (.cells [.int .i64 0,.str [],.nils,.nils,.int .i64 0,.nils,.nils,.nils]):=by rw [gx.get 1 (by omega)];exact q1
  have p2:H4.get 2=some (.cells [aq encS 1 x]):=by rw [gx.get 2 (by omega)];exact k2
  refine an (De p2 (by omega) (fun s hs=>by rw [hx1];exact kM s hs) (by have:=hf.1;omega) hxb fun a h5 oa x5=>?_)
  rw [gn3] at oa
  obtain ⟨hdW,rfl,hdl,hdk⟩:=H9 oa
  have r0:h5.get 0=some (.cells (aM r)):=by rw [x5.get 0 (by omega)];exact p0
  have r1:h5.get 1=some (.cells [.int .i64 0,.str [],.nils,.nils,.int .i64 0,.nils,.nils,.nils]):=by rw [x5.get 1 (by omega)];exact p1
  have r2:h5.get 2=some (.cells [aq encS 1 x]):=by rw [x5.get 2 (by omega)];exact p2
  have r3:h5.get 3=some (.cells [.int .i64 0,.str [],.nils,.nils,.int .i64 0,.nils,.nils,.nils]):=by rw [x5.get 3 (by omega)];exact g3
  have rn:=x5.next
  have hst:=Ih (vs:=bx i0 r (varsOf r).length hdW.av .nils .nils) r3 rfl rfl (Dj _ _ _ _ rfl rfl)
  have hag:=Ie i0 (varsOf r).length r.name r.args r.body hdW
  rw [← hx1] at hst hag
  simp only [aQ,Nat.reduceAdd,Nat.reduceEqDiff,reduceIte,ak r0,ak r2,aM,nL,AV.beq_refl,Bool.and_self,Bool.and_true,if_true,hag]
  simp only [bx] at hst
  simp only [hst,aQ,Nat.reduceAdd,Nat.reduceEqDiff,reduceIte]
  have t0:Cg 4 (h5.set 3 (.cells (bx i0 r x.l.length hdW.av .nils .nils))) .nils .nils [] [] [hdW]:=
   (Cg.low ⟨.nil,.nil,fun w hw p hp=>by
    rw [List.mem_singleton] at hw;subst hw
    obtain ⟨a1,a2,a3⟩:=hdk p hp
    exact ⟨a1,a2,a3,by simp [dQ],by simp [dQ]⟩,fun b hb=>by simp [dQ] at hb⟩ (by omega) _)
  have s0:(h5.set 3 (.cells (bx i0 r x.l.length hdW.av .nils .nils))).get 0=some (.cells (aM r)):=by rw [af.aS,if_neg (by omega)];exact r0
  have s1:(h5.set 3 (.cells (bx i0 r x.l.length hdW.av .nils .nils))).get 1=some (.cells [.int .i64 0,.str [],.nils,.nils,.int .i64 0,.nils,.nils,.nils]):=by rw [af.aS,if_neg (by omega)];exact r1
  have s2:(h5.set 3 (.cells (bx i0 r x.l.length hdW.av .nils .nils))).get 2=some (.cells [aq encS 1 x]):=by rw [af.aS,if_neg (by omega)];exact r2
  have s3:(h5.set 3 (.cells (bx i0 r x.l.length hdW.av .nils .nils))).get 3=some (.cells (bx i0 r x.l.length hdW.av .nils .nils)):=by rw [af.aS,if_pos rfl]
  have sn:(h5.set 3 (.cells (bx i0 r x.l.length hdW.av .nils .nils))).next=h5.next:=af.next_set _ _ _
  simp only [bx] at t0 s0 s1 s2 s3 sn
  generalize (h5.set 3 (.cells [.int .i64 i0,.str r.name,aq encS 1 r.args,aq bJ 4 r.body,.int .i64 (x.l.length:Int),hdW.av,.nils,.nils]))=H6 at t0 s0 s1 s2 s3 sn ⊢
  simp only [ak s0,aM,aQ,Nat.reduceAdd,Nat.reduceEqDiff,reduceIte]
  refine aE 0 r.body.l.length (Nat.zero_le _) (fun i e h'=>∃ cW lW ws ls,Cg 4 h' cW lW ws ls (hdW :: ws)∧ws.map RW.l=(r.body.l.take i).map (fun c=>gq (varsOf r) c.args.l)∧ls=(r.body.l.take i).map (fun c=>fS (placesOf (varsOf r) c.args.l)) ∧
   h'.get 1=some (.cells [.int .i64 0,.str [],.nils,.nils,.int .i64 0,.nils,.nils,.nils])∧h'.get 2=some (.cells [aq encS 1 x])∧h'.get 3=some (.cells [.int .i64 i0,.str r.name,aq encS 1 r.args,aq bJ 4 r.body,.int .i64 (x.l.length:Int),hdW.av,cW,lW])∧4≤h'.next ∧
   e 4 = .ptr 1 0∧e 6 = .func 156 [] [.ptr 2 0]∧e 7 = .ptr 3 0∧e 28=aq bJ 4 r.body∧e 29 = .int .i64 (r.body.l.length:Int)∧e 30 = .int .i64 (i:Int))
   ⟨.nils,.nils,[],[],t0,rfl,rfl,s1,s2,s3,by omega,rfl,rfl,rfl,rfl,rfl,rfl⟩ ?_ ?_
  ·rintro i e h' _ hi ⟨cW,lW,ws,ls,tw,hws,hls,u1,u2,u3,un,e4,e6,e7,e28,e29,e30⟩ K' hn hx hr hp
   have hv:r.body.l[i]?=some r.body.l[i]:=List.getElem?_eq_getElem hi
   generalize r.body.l[i]=c at hv
   have hcm:=List.mem_of_getElem? hv
   have hc15:=hf.2.2 c hcm
   obtain ⟨H2,hs2,c1,co,cn⟩:=cJ (h:=h') (zs:=[.int .i64 0,.bool false,.str [],.nils]) (cs:=bJ c) (n:=4) rfl rfl (fY c)
   have x2:bK h' H2:=⟨by omega,fun b hb=>co b (by omega)⟩
   rw [F.cc.aP]
   simp only [e6,e28,e29,e30,aQ,Nat.reduceAdd,Nat.reduceEqDiff,reduceIte,bf hi,aT r.body hi,c8 fX hv,hs2]
   simp only [aQ,Nat.reduceAdd,Nat.reduceEqDiff,reduceIte,ak c1,bJ,callV_func,List.nil_append,List.cons_append]
   refine an (De (xs:=c.args) (by rw [x2.get 2 (by omega)];exact u2) (by omega) (fun s hs=>by rw [hx1];exact mX hcm s hs) (by omega) hxb fun a h3 oa x3=>?_)
   rw [hx1] at oa
   obtain ⟨w,rfl,hwl,hwk⟩:=H9 oa
   have x23:=x2.trans x3
   have tw3:=tw.ext x23
   have v1:h3.get 1=some (.cells [.int .i64 0,.str [],.nils,.nils,.int .i64 0,.nils,.nils,.nils]):=by rw [x23.get 1 (by omega)];exact u1
   have v2:h3.get 2=some (.cells [aq encS 1 x]):=by rw [x23.get 2 (by omega)];exact u2
   have v3:h3.get 3=some (.cells [.int .i64 i0,.str r.name,aq encS 1 r.args,aq bJ 4 r.body,.int .i64 (x.l.length:Int),hdW.av,cW,lW]):=by rw [x23.get 3 (by omega)];exact u3
   have vn:=x23.next
   have twh:Cg 4 h3 cW lW ws ls (hdW :: ws++[w]):=tw3.hold (j:=H2.next) (fun p hp=>by
    obtain ⟨a1,a2,a3⟩:=hwk p hp
    exact ⟨a1,by omega,a2,a3⟩) (fun b hb=>by have:=tw.oc.lt hb;omega) (fun b hb=>by have:=tw.ol.lt hb;omega)
   have hpl:(placesOf (varsOf r) c.args.l).length≤cy:=by unfold placesOf cy;rw [List.length_map];omega
   have hlen:∀ h,bR .slice w.av h=some (.int .i64 ((placesOf (varsOf r) c.args.l).length:Int)):=fun h=>by rw [oa.len];simp
   simp only [aQ,Nat.reduceAdd,Nat.reduceEqDiff,reduceIte,hlen]
   refine aE 0 (placesOf (varsOf r) c.args.l).length (Nat.zero_le _) (fun j e h2=>h2=h3∧e 4 = .ptr 1 0∧e 6 = .func 156 [] [.ptr 2 0]∧e 7 = .ptr 3 0∧e 28=aq bJ 4 r.body∧e 29 = .int .i64 (r.body.l.length:Int)∧e 30 = .int .i64 (i:Int) ∧
    e 10=w.av∧e 11 = .int .i64 (fS ((placesOf (varsOf r) c.args.l).take j))∧e 39=w.av∧e 40 = .int .i64 ((placesOf (varsOf r) c.args.l).length:Int)∧e 41 = .int .i64 (j:Int)) ⟨rfl,e4,e6,e7,e28,e29,e30,rfl,rfl,rfl,rfl,rfl⟩ ?_ ?_
   ·rintro j e h2 _ hj ⟨rfl,e4,e6,e7,e28,e29,e30,e10,e11,e39,e40,e41⟩ K2 hn2 hx2 hr2 hp2
    have hpj:(placesOf (varsOf r) c.args.l)[j]?=some (placesOf (varsOf r) c.args.l)[j]:=List.getElem?_eq_getElem hj
    generalize (placesOf (varsOf r) c.args.l)[j]=p at hpj
    have hpi:((placesOf (varsOf r) c.args.l).map fun (p:Nat)=>(p:Int))[j]?=some (p:Int):=by rw [List.getElem?_map,hpj];rfl
    obtain ⟨b,_,_,i1,_,i3⟩:=oa.get lu hpi
    have i3':aj none (.ptr b (j*1)) h2=some (.int .i64 (p:Int)):=i3 0 (by omega)
    rw [F.cc.dc]
    simp only [e11,e39,e40,e41,aQ,Nat.reduceAdd,Nat.reduceEqDiff,reduceIte,bf hj,i1,i3',Dh,aK hj hpl]
    refine hn2 _ _ ⟨rfl,e4,e6,e7,e28,e29,e30,e10,?_,e39,e40,rfl⟩
    have:fS ((placesOf (varsOf r) c.args.l).take (j+1))=FB (fS ((placesOf (varsOf r) c.args.l).take j)) (p:Int):=by unfold fS;rw [List.take_add_one,hpj];simp
    rw [this];rfl
   ·rintro e h2 ⟨rfl,e4,e6,e7,e28,e29,e30,e10,e11,e39,e40,e41⟩ K2 hx2
    rw [List.take_of_length_le (Nat.le_refl _)] at e11
    have hwsl:ws.length≤1500:=by have h1:=congrArg List.length hws;simp only [List.length_map] at h1;have h2:=List.length_take_le' i r.body.l;have:=hf.2.1;omega
    have hlsl:ls.length≤1500:=by rw [hls,List.length_map];have h2:=List.length_take_le' i r.body.l;have:=hf.2.1;omega
    obtain ⟨c',l',m2,m3,t1,t2,t3,t4,t5⟩:=twh.push (by omega) (by omega) (by omega) w (fS (placesOf (varsOf r) c.args.l))
    have y3:m2.get 3=some (.cells [.int .i64 i0,.str r.name,aq encS 1 r.args,aq bJ 4 r.body,.int .i64 (x.l.length:Int),hdW.av,cW,lW]):=by rw [(t4 3 (by omega)).1];exact v3
    have z3:m3.get 3=some (.cells [.int .i64 i0,.str r.name,aq encS 1 r.args,aq bJ 4 r.body,.int .i64 (x.l.length:Int),hdW.av,cW,lW]):=by rw [(t4 3 (by omega)).2];exact v3
    obtain ⟨w1,w2⟩:=pH t3.oc
    obtain ⟨w3,w4⟩:=pH t3.ol
    have st1:bH 1 (.ptr 3 6) c' m3=some (m3.set 3 (.cells [.int .i64 i0,.str r.name,aq encS 1 r.args,aq bJ 4 r.body,.int .i64 (x.l.length:Int),hdW.av,c',lW])):=by
     rw [dr (n:=1) z3 (by rw [w1];rfl) (by rw [w1];exact w2) (by simp),w1];rfl
    have z4:(m3.set 3 (.cells [.int .i64 i0,.str r.name,aq encS 1 r.args,aq bJ 4 r.body,.int .i64 (x.l.length:Int),hdW.av,c',lW])).get 3=some (.cells [.int .i64 i0,.str r.name,aq encS 1 r.args,aq bJ 4 r.body,.int .i64 (x.l.length:Int),hdW.av,c',lW]):=by rw [af.aS,if_pos rfl]
    have st2:bH 1 (.ptr 3 7) l' (m3.set 3 (.cells [.int .i64 i0,.str r.name,aq encS 1 r.args,aq bJ 4 r.body,.int .i64 (x.l.length:Int),hdW.av,c',lW]))=some ((m3.set 3 (.cells [.int .i64 i0,.str r.name,aq encS 1 r.args,aq bJ 4 r.body,.int .i64 (x.l.length:Int),hdW.av,c',lW])).set 3 (.cells [.int .i64 i0,.str r.name,aq encS 1 r.args,aq bJ 4 r.body,.int .i64 (x.l.length:Int),hdW.av,c',l'])):=by
     rw [dr (n:=1) z4 (by rw [w3];rfl) (by rw [w3];exact w4) (by simp),w3];rfl
    rw [F.cc.dc]
    simp only [e40,e41,aQ,Nat.reduceAdd,Nat.reduceEqDiff,reduceIte,aR]
    rw [hx2,F.cc.cx]
    simp only [e7,e10,e11,e30,aQ,Nat.reduceAdd,Nat.reduceEqDiff,reduceIte,ak v3,Pe,HU,af.next_alloc]
    rw [ak (r:=none) (o:=7) (h:=(af.alloc h2 (.cells (tK w)))) (cs:=[.int .i64 i0,.str r.name,aq encS 1 r.args,aq bJ 4 r.body,.int .i64 (x.l.length:Int),hdW.av,cW,lW]) (by rw [af.aX,if_neg (by omega)];exact v3)]
    simp only [aQ,Nat.reduceAdd,Nat.reduceEqDiff,reduceIte,HU,af.next_alloc,t1,ak y3,AV.beq_refl,Bool.and_self,if_true,t2,st1,st2,aK hi hbb]
    refine hn _ _ ⟨c',l',ws++[w],ls++[fS (placesOf (varsOf r) c.args.l)],(t3.low (by omega) _).low (by omega) _,?_,?_,?_,?_,by rw [af.aS,if_pos rfl],by rw [af.next_set,af.next_set];omega,e4,e6,e7,e28,e29,rfl⟩
    ·rw [List.map_append,hws,List.take_add_one,hv,List.map_append]
     simp only [List.map_cons,List.map_nil,Option.toList_some]
     rw [hwl];rfl
    ·rw [hls,List.take_add_one,hv,List.map_append];rfl
    ·rw [af.aS,if_neg (by omega),af.aS,if_neg (by omega),(t4 1 (by omega)).2];exact v1
    ·rw [af.aS,if_neg (by omega),af.aS,if_neg (by omega),(t4 2 (by omega)).2];exact v2
  ·rintro e h' ⟨cW,lW,ws,ls,tw,hws,hls,u1,u2,u3,un,e4,e6,e7,e28,e29,e30⟩ K' hx
   rw [List.take_of_length_le (Nat.le_refl _)] at hws hls
   obtain ⟨_,w2⟩:=pH tw.oc
   obtain ⟨_,w4⟩:=pH tw.ol
   have hst2:=Ih (vs:=bx i0 r x.l.length hdW.av cW lW) u1 rfl rfl (Dj _ _ _ _ w2 w4)
   simp only [bx] at hst2
   rw [F.cc.aP]
   simp only [e29,e30,aQ,Nat.reduceAdd,Nat.reduceEqDiff,reduceIte,aR]
   rw [hx,F.cc.aG]
   simp only [e4,e7,aQ,Nat.reduceAdd,Nat.reduceEqDiff,reduceIte,ak u3,FC,hst2,Ig]
   have tf:=tw.low (by omega:1<4) (.cells [.int .i64 i0,.str r.name,aq encS 1 r.args,aq bJ 4 r.body,.int .i64 (x.l.length:Int),hdW.av,cW,lW])
   have gf:(h'.set 1 (.cells [.int .i64 i0,.str r.name,aq encS 1 r.args,aq bJ 4 r.body,.int .i64 (x.l.length:Int),hdW.av,cW,lW])).get 1=some (.cells [.int .i64 i0,.str r.name,aq encS 1 r.args,aq bJ 4 r.body,.int .i64 (x.l.length:Int),hdW.av,cW,lW]):=by rw [af.aS,if_pos rfl]
   simp only [bE,Nat.reduceEqDiff,reduceIte,e4,ak gf,FC,bindO_some,oneOf]
   obtain ⟨cs,cs1,cs2⟩:=tf.tV (fun w hw=>List.mem_cons_of_mem _ hw)
   obtain ⟨lx,lx1,lx2⟩:=tf.ol.Ez (fun v y hy=>by
    simp only [encI,List.mem_cons,List.not_mem_nil,or_false] at hy
    subst hy;exact .scalar _ rfl)
   have hfz:Fz true (h'.set 1 (.cells [.int .i64 i0,.str r.name,aq encS 1 r.args,aq bJ 4 r.body,.int .i64 (x.l.length:Int),hdW.av,cW,lW])) hdW.av (aq encI 1 (hdW.map (·.2))):=by
    cases hdW with
    |none=>exact .ez rfl
    |some p=>exact qC (tf.ok _ List.mem_cons_self p rfl).2.2.1
   have:=fin _ hdW cW lW cs lx hfz (by rw [← hx1];exact hdl) cs2 lx2 (by rw [cs1,hws]) (by rw [lx1,hls])
   rw [← hx1] at this
   exact this
 have main:=gen (fun o h'=>yes (∃ (hdW:RW) (cW lW:AV) (cs:Sl (Sl Int)) (ls:Sl Int),o = .ret (.agg (bx i0 r (varsOf r).length hdW.av cW lW))∧Fz true h' hdW.av (aq encI 1 (hdW.map (·.2)))∧hdW.l=gq (varsOf r) r.args.l∧Fz true h' cW (aq ey 1 cs)∧Fz true h' lW (aq encI 1 ls) ∧
   cs.l.map Sl.l=r.body.l.map (fun c=>gq (varsOf r) c.args.l)∧ls.l=r.body.l.map (fun c=>fS (placesOf (varsOf r) c.args.l)))) (fun h' hdW cW lW cs ls f1 f2 f3 f4 f5 f6=>cz.2 ⟨hdW,cW,lW,cs,ls,rfl,f1,f2,f3,f4,f5,f6⟩)
 refine main.frozen (by have:=eC r;simpa [aM,AV.pureL,AV.pure] using this) fun o h' ho=>?_
 obtain ⟨hdW,cW,lW,cs,ls,rfl,f1,f2,f3,f4,f5,f6⟩:=cz.1 ho
 have fl:lf true h' (bx i0 r (varsOf r).length hdW.av cW lW) (bx i0 r (varsOf r).length (aq encI 1 (hdW.map (·.2))) (aq ey 1 cs) (aq encI 1 ls)):=
  .cons (.scalar _ rfl) (.cons (.scalar _ rfl) (.cons (.ez (cj kI _)) (.cons (.ez (cj yK _)) (.cons (.scalar _ rfl) (.cons f1 (.cons f3 (.cons f4 .nil)))))))
 exact ⟨_,_,rfl,.agg _ _ fl.len fl.rel,hK (hdW.map (·.2)) cs ls (by rw [← f2];cases hdW<;>rfl) f5 f6⟩
end
end Go.AM
namespace Go.AM
open Go Go.Proofs
noncomputable section
theorem jb(vs:List Int)(ps:List Nat):(bZ vs ps).length=ps.length:=by simp [bZ]
theorem kN{n:Nat}{vs:List Int}(hb:gd n vs=true){ps:List Nat}(hps:∀ p ∈ ps,p<vs.length):gd n (bZ vs ps)=true:=by
 unfold gd at hb ⊢
 rw [List.all_eq_true] at hb ⊢
 intro v hv
 unfold bZ at hv
 obtain ⟨p,hp,rfl⟩:=List.mem_map.1 hv
 have hpl:=hps p hp
 refine hb _ ?_
 rw [List.getD_eq_getElem?_getD,List.getElem?_eq_getElem hpl]
 exact List.getElem_mem hpl
theorem jU{vars xs:List bA}(h:∀ s ∈ xs,s ∈ vars):∀ p ∈ placesOf vars xs,p<vars.length:=fun p hp=>by
 unfold placesOf at hp
 obtain ⟨s,hs,rfl⟩:=List.mem_map.1 hp
 exact List.idxOf_lt_length_of_mem (h s hs)
structure yW (n:Nat) (D:bA→Option (Nat×List Bool)) (r:aJ):Prop where
 rel:∀ c ∈ r.body.l,c.kind=0→n ^ c.args.l.length≤4096∧∃ p,D c.name=some p∧p.2.length=n ^ c.args.l.length
 two:∀ c ∈ r.body.l,c.kind=1∨c.kind=2→c.args.l.length=2
 kinds:∀ c ∈ r.body.l,c.kind=0∨c.kind=1∨c.kind=2
 arity:∀ c ∈ r.body.l,c.args.l.length≤12
def cr(r:aJ)(c:dI):List Nat:=placesOf (varsOf r) c.args.l
def wE(n:Nat)(look:bA→Nat→Bool)(r:aJ)(vs:List Int)(upto:Int):Bool:=r.body.l.all fun c=>!decide (fS (cr r c)=upto)||ej n look c (bZ vs (cr r c))
set_option maxHeartbeats 1000000 in
theorem Dk{S B n lo N0 N1 N4 V:Nat}{D:bA→Option (Nat×List Bool)}{h:af}{r:aJ}{i0 nv:Int}{hd:Sl Int}{cs:Sl (Sl Int)}{ls:Sl Int}{vs:List Int}(hf:r.lR)(hcs:cs.l.map Sl.l=r.body.l.map (fun c=>gq (varsOf r) c.args.l))(hls:ls.l=r.body.l.map (fun c=>fS (placesOf (varsOf r) c.args.l)))
  (hS:h.get S=some (.cells [.int .i64 (n:Int),.map B])) (hD:dm D h B lo) (hSn:S<h.next) (h0:h.get N0=some (.cells [.ptr S 0])) (h0n:N0<h.next) (h1:h.get N1=some (.cells (bx i0 r nv (aq encI 1 hd) (aq ey 1 cs) (aq encI 1 ls)))) (h1n:N1<h.next)
  (h4:h.get N4=some (.cells [.slice V 0 vs.length 1])) (h4n:N4<h.next) (hV:h.get V=some (.cells (vs.map iv))) (hVn:V<h.next) (hvl:vs.length=(varsOf r).length) (hvs:gd n vs=true) (n1:1≤n) (hk:yW n D r) {upto:Int} {K:Out→af→Bool}
  (hK:∀ h',bK h h'→K (.ret (.bool (wE n (cN D) r vs upto))) h'=true):Sem Tryz.prog 166 [.int .i64 upto,.ptr N1 0,.ptr N0 0,.ptr N4 0] h K:=by
 have hbb:r.body.l.length≤cy:=by have:=hf.2.1;unfold cy;omega
 have hcl:cs.l.length=r.body.l.length:=by have:=congrArg List.length hcs;simpa using this
 have hll:ls.l.length=r.body.l.length:=by rw [hls];simp
 refine F.nG ?_
 rw [F.oq]
 simp only [bx] at h1
 simp only [aQ,Nat.reduceAdd,Nat.reduceEqDiff,reduceIte,ak h1]
 refine aE 0 r.body.l.length (Nat.zero_le _) (fun i e h'=>bK h h'∧e 0 = .int .i64 upto∧e 1 = .ptr N1 0∧e 2 = .ptr N0 0∧e 3 = .ptr N4 0∧e 10=aq bJ 4 r.body∧e 11 = .int .i64 (r.body.l.length:Int)∧e 12 = .int .i64 (i:Int) ∧
  (r.body.l.take i).all (fun c=>!decide (fS (cr r c)=upto)||ej n (cN D) c (bZ vs (cr r c)))=true) ⟨bK.refl _,rfl,rfl,rfl,rfl,rfl,rfl,rfl,rfl⟩ ?_ ?_
 ·rintro i e h' _ hi ⟨x1,e0,e1,e2,e3,e10,e11,e12,ht⟩ K' hn hx hr hp
  have hv:r.body.l[i]?=some r.body.l[i]:=List.getElem?_eq_getElem hi
  generalize r.body.l[i]=c at hv
  have hcm:=List.mem_of_getElem? hv
  obtain ⟨H2,hs2,c1,co,cn⟩:=cJ (h:=h') (zs:=[.int .i64 0,.bool false,.str [],.nils]) (cs:=bJ c) (n:=4) rfl rfl (fY c)
  have x2:bK h H2:=x1.trans ⟨by omega,fun b hb=>co b (by omega)⟩
  have q1:H2.get N1=some (.cells [.int .i64 i0,.str r.name,aq encS 1 r.args,aq bJ 4 r.body,.int .i64 nv,aq encI 1 hd,aq ey 1 cs,aq encI 1 ls]):=by rw [x2.get _ h1n];exact h1
  have q0:H2.get N0=some (.cells [.ptr S 0]):=by rw [x2.get _ h0n];exact h0
  have q4:H2.get N4=some (.cells [.slice V 0 vs.length 1]):=by rw [x2.get _ h4n];exact h4
  have qV:H2.get V=some (.cells (vs.map iv)):=by rw [x2.get _ hVn];exact hV
  have hlast:ls.l[i]?=some (fS (cr r c)):=by rw [hls,List.getElem?_map,hv];rfl
  have n1x:=x1.next
  rw [F.cw.aP]
  simp only [e0,e1,e2,e3,e10,e11,e12,aQ,Nat.reduceAdd,Nat.reduceEqDiff,reduceIte,bf hi,aT r.body hi,c8 fX hv,hs2]
  simp only [aQ,Nat.reduceAdd,Nat.reduceEqDiff,reduceIte,ak q1,aT ls (show i<ls.l.length by omega),fB hlast,ct]
  by_cases hu:fS (cr r c)=upto
  ·have hci:i<cs.l.length:=by omega
   have hrow:cs.l[i]?=some cs.l[i]:=List.getElem?_eq_getElem hci
   have hxl:(cs.l[i]).l=(cr r c).map fun (p:Nat)=>(p:Int):=by
    have h3:(cs.l.map Sl.l)[i]?=some (gq (varsOf r) c.args.l):=by rw [hcs,List.getElem?_map,hv];rfl
    rw [List.getElem?_map,hrow] at h3
    exact Option.some.inj h3
   generalize cs.l[i]=xi at hrow hxl
   have hpl:∀ p ∈ cr r c,p<vs.length:=by rw [hvl];exact jU (mX hcm)
   have hplen:(cr r c).length=c.args.l.length:=by unfold cr placesOf;simp
   simp only [decide_eq_true hu,aD,aQ,Nat.reduceAdd,Nat.reduceEqDiff,reduceIte,ak q0,ak q4,ak q1,ak c1,bJ,w8,aT cs hci,iC hrow]
   refine an (FA (ps:=cr r c) qV (by have:=x2.next;omega) rfl hxl hpl (by rw [hplen];have:=hk.arity c hcm;omega) fun h3 t1 x3 t2=>?_)
   have c3:h3.get h'.next=some (.cells (bJ c)):=by rw [x3.get _ (by omega)];exact c1
   have q03:h3.get N0=some (.cells [.ptr S 0]):=by rw [x3.get _ (by have:=x2.next;omega)];exact q0
   have x23:=x2.trans x3
   simp only [aQ,Nat.reduceAdd,Nat.reduceEqDiff,reduceIte,ak c3,ak q03,bJ,w8,AV.beq_refl,Bool.and_self,Bool.and_true,if_true]
   have hvlen:=jb vs (cr r c)
   have hS3:h3.get S=some (.cells [.int .i64 (n:Int),.map B]):=by rw [x23.get _ hSn];exact hS
   rw [← hvlen]
   refine an (vB (D:=D) (lo:=lo) hS3 (hD.ext x23) n1 t1 t2 (by have:=x23.next;omega) (by rw [hvlen,hplen];exact hk.arity c hcm) (kN hvs hpl) (fun k0=>by rw [hvlen,hplen];exact hk.rel c hcm k0) (fun k12=>by rw [hvlen,hplen];exact hk.two c hcm k12) (hk.kinds c hcm) fun h5 x5=>?_)
   simp only [aQ,Nat.reduceAdd,Nat.reduceEqDiff,reduceIte]
   cases hcv:ej n (cN D) c (bZ vs (cr r c)) with
   |false=>
    simp only [Bool.not_false,aD]
    rw [hr,F.cw.bp]
    have:wE n (cN D) r vs upto=false:=all_false hv (by rw [decide_eq_true hu,hcv];rfl)
    rw [this] at hK
    exact hK h5 (x23.trans x5)
   |true=>
    simp only [Bool.not_true,aC,e12,aK hi hbb,bindO_some]
    exact hn _ _ ⟨x23.trans x5,e0,e1,e2,e3,e10,e11,rfl,gz hv ht (by rw [hcv,Bool.or_true])⟩
  ·simp only [decide_eq_false hu,aC,e12,aK hi hbb,bindO_some]
   exact hn _ _ ⟨x2,e0,e1,e2,e3,e10,e11,rfl,gz hv ht (by rw [decide_eq_false hu];rfl)⟩
 ·rintro e h' ⟨x1,e0,e1,e2,e3,e10,e11,e12,ht⟩ K' hx
  rw [List.take_of_length_le (Nat.le_refl _)] at ht
  rw [F.cw.aP]
  simp only [e11,e12,aQ,Nat.reduceAdd,Nat.reduceEqDiff,reduceIte,aR]
  rw [hx,F.cw.aG]
  have:wE n (cN D) r vs upto=true:=ht
  rw [this] at hK
  exact hK h' x1
end
end Go.AM
namespace Go.AM
open Go Go.Proofs
noncomputable section
structure L7 (σ:Type) (Abs:σ→af→Prop) (Dof:σ→bA→Option (Nat×List Bool)) (doF:List Int→σ→σ) (S B n lo base k:Nat) (r:aJ) (g:FuncId) (ga gb:List AV):Prop where
 n1:1≤n
 n64:n≤64
 sb:S<base
 st:∀ s h,Abs s h→h.get S=some (.cells [.int .i64 (n:Int),.map B])∧dm (Dof s) h B lo∧yW n (Dof s) r
 keep:∀ s h h',Abs s h→base≤h.next→(∀ b,b<base→h'.get b=h.get b)→h.next≤h'.next→Abs s h'
 run:∀ s h V vs K,Abs s h→base≤V→V<h.next→h.get V=some (.cells (vs.map iv))→vs.length=k→gd n vs=true →
  (∀ h',Abs (doF vs s) h'→(∀ b,base≤b→b<h.next→h'.get b=h.get b)→h.next≤h'.next→K (.ret (.bool true)) h'=true)→Sem Tryz.prog g (ga++([.slice V 0 vs.length 1]++gb)) h K
def iR{σ:Type}(Dof:σ→bA→Option (Nat×List Bool))(n:Nat)(r:aJ)(v:Nat)(go:List Int→σ→List Int×σ)(acc:List Int×σ)(x:Nat):List Int×σ:=
 if wE n (cN (Dof acc.2)) r (acc.1.set v (x:Int)) (v:Int)=true then go (acc.1.set v (x:Int)) acc.2 else (acc.1.set v (x:Int),acc.2)
def fC{σ:Type}(Dof:σ→bA→Option (Nat×List Bool))(doF:List Int→σ→σ)(n:Nat)(r:aJ):Nat→Nat→List Int→σ→List Int×σ
 |0,_,vs,s=>(vs,doF vs s)
 |m+1,v,vs,s=>(List.range n).foldl (iR Dof n r v (fC Dof doF n r m (v+1))) (vs,s)
theorem nM{n:Nat}{vs:List Int}(h:gd n vs=true)(v:Nat){x:Nat}(hx:x<n):gd n (vs.set v (x:Int))=true:=by
 unfold gd at h ⊢
 rw [List.all_eq_true] at h ⊢
 intro y hy
 rcases List.mem_or_eq_of_mem_set hy with hy|rfl
 ·exact h y hy
 ·simp;omega
theorem gG{α β:Type}{P:α→Prop}{f:α→β→α}:∀ {l:List β} {a:α},P a→(∀ a b,b ∈ l→P a→P (f a b))→P (l.foldl f a)
 |[],a,h,_=>h
 |b :: l,a,h,hf=>gG (l:=l) (hf a b List.mem_cons_self h) fun a c hc=>hf a c (List.mem_cons_of_mem _ hc)
theorem Dl{σ:Type}{Dof:σ→bA→Option (Nat×List Bool)}{doF:List Int→σ→σ}{n:Nat}{r:aJ}{k:Nat}:∀ (m v:Nat) (vs:List Int) (s:σ),vs.length=k→gd n vs=true→(fC Dof doF n r m v vs s).1.length=k∧gd n (fC Dof doF n r m v vs s).1=true
 |0,v,vs,s,h1,h2=>⟨h1,h2⟩
 |m+1,v,vs,s,h1,h2=>by
  refine gG (P:=fun (a:List Int×σ)=>a.1.length=k∧gd n a.1=true) ⟨h1,h2⟩ fun a x hx ha=>?_
  have hxn:=List.mem_range.1 hx
  have h3:(a.1.set v (x:Int)).length=k:=by rw [List.length_set];exact ha.1
  have h4:=nM ha.2 v hxn
  unfold iR
  split
  ·exact Dl m (v+1) _ _ h3 h4
  ·exact ⟨h3,h4⟩
structure Cells (S n k:Nat) (N0 N1 N2 N4 N5 N6 V base:Nat) (i0:Int) (r:aJ) (hd:Sl Int) (cs:Sl (Sl Int)) (ls:Sl Int) (g:FuncId) (ga gb:List AV) (h:af):Prop where
 h0:h.get N0=some (.cells [.ptr S 0])
 h1:h.get N1=some (.cells (bx i0 r k (aq encI 1 hd) (aq ey 1 cs) (aq encI 1 ls)))
 h2:h.get N2=some (.cells [.func g ga gb])
 h4:h.get N4=some (.cells [.slice V 0 k 1])
 h5:h.get N5=some (.cells [.func 166 [] [.ptr N1 0,.ptr N0 0,.ptr N4 0]])
 h6:h.get N6=some (.cells [.func 167 [] [.ptr N1 0,.ptr N2 0,.ptr N4 0,.ptr N0 0,.ptr N5 0,.ptr N6 0]])
 lo:base≤N0∧base≤N1∧base≤N2∧base≤N4∧base≤N5∧base≤N6∧base≤V
 hi:N0<h.next∧N1<h.next∧N2<h.next∧N4<h.next∧N5<h.next∧N6<h.next∧V<h.next
 ne:N0≠V∧N1≠V∧N2≠V∧N4≠V∧N5≠V∧N6≠V
theorem Cells.keep{S n k N0 N1 N2 N4 N5 N6 V base:Nat}{i0:Int}{r:aJ}{hd:Sl Int}{cs:Sl (Sl Int)}{ls:Sl Int}{g:FuncId}{ga gb:List AV}{h h':af}(c:Cells S n k N0 N1 N2 N4 N5 N6 V base i0 r hd cs ls g ga gb h)(hb:∀ b,base≤b→b<h.next→b≠V→h'.get b=h.get b)(hn:h.next≤h'.next) :
  Cells S n k N0 N1 N2 N4 N5 N6 V base i0 r hd cs ls g ga gb h':=by
 obtain ⟨h0,h1,h2,h4,h5,h6,⟨l0,l1,l2,l4,l5,l6,lv⟩,⟨i0',i1,i2,i4,i5,i6,iv'⟩,⟨n0,n1,n2,n4,n5,n6⟩⟩:=c
 exact ⟨by rw [hb _ l0 i0' n0];exact h0,by rw [hb _ l1 i1 n1];exact h1,by rw [hb _ l2 i2 n2];exact h2,by rw [hb _ l4 i4 n4];exact h4,by rw [hb _ l5 i5 n5];exact h5,by rw [hb _ l6 i6 n6];exact h6,
  ⟨l0,l1,l2,l4,l5,l6,lv⟩,⟨by omega,by omega,by omega,by omega,by omega,by omega,by omega⟩,⟨n0,n1,n2,n4,n5,n6⟩⟩
set_option maxHeartbeats 1000000 in
theorem Gq{σ:Type}{Abs:σ→af→Prop}{Dof:σ→bA→Option (Nat×List Bool)}{doF:List Int→σ→σ}{S B n lo base k:Nat}{r:aJ}{g:FuncId}{ga gb:List AV}(d:L7 σ Abs Dof doF S B n lo base k r g ga gb)
  {N0 N1 N2 N4 N5 N6 V:Nat} {i0:Int} {hd:Sl Int} {cs:Sl (Sl Int)} {ls:Sl Int} (hf:r.lR) (hk:k=(varsOf r).length) (hk12:k≤12) (hcs:cs.l.map Sl.l=r.body.l.map (fun c=>gq (varsOf r) c.args.l)) (hls:ls.l=r.body.l.map (fun c=>fS (placesOf (varsOf r) c.args.l))) :
  ∀ (m v:Nat),v+m=k→∀ (vs:List Int) (s:σ) (h:af) (K:Out→af→Bool),Abs s h→base≤h.next→Cells S n k N0 N1 N2 N4 N5 N6 V base i0 r hd cs ls g ga gb h→h.get V=some (.cells (vs.map iv))→vs.length=k→gd n vs=true →
   (∀ h',Abs (fC Dof doF n r m v vs s).2 h'→h'.get V=some (.cells ((fC Dof doF n r m v vs s).1.map iv))→(∀ b,base≤b→b<h.next→b≠V→h'.get b=h.get b)→h.next≤h'.next→K (.ret (.bool true)) h'=true) →
   Sem Tryz.prog 167 [.int .i64 (v:Int),.ptr N1 0,.ptr N2 0,.ptr N4 0,.ptr N0 0,.ptr N5 0,.ptr N6 0] h K:=by
 intro m
 induction m with
 |zero=>
  intro v hv vs s h K ha hbn hc hV hvl hvs hK
  have h1:=hc.h1
  simp only [bx] at h1
  refine F.jt ?_
  rw [F.jG]
  simp only [aQ,Nat.reduceAdd,Nat.reduceEqDiff,reduceIte,ak h1,ct,decide_eq_true (by omega:(v:Int)=(k:Int)),aD,ak hc.h2,ak hc.h4,callV_func]
  rw [← hvl]
  refine an (d.run s h V vs _ ha hc.lo.2.2.2.2.2.2 hc.hi.2.2.2.2.2.2 hV hvl hvs fun h' a1 a2 a3=>?_)
  simp only [aQ,Nat.reduceAdd,Nat.reduceEqDiff,reduceIte]
  exact hK h' a1 (by rw [a2 V hc.lo.2.2.2.2.2.2 hc.hi.2.2.2.2.2.2];exact hV) (fun b b1 b2 _=>a2 b b1 b2) a3
 |succ m ih=>
  intro v hv vs s h K ha hbn hc hV hvl hvs hK
  have h1:=hc.h1
  simp only [bx] at h1
  have hS:=(d.st s h ha).1
  have n64:=d.n64
  refine F.jt ?_
  rw [F.jG]
  simp only [aQ,Nat.reduceAdd,Nat.reduceEqDiff,reduceIte,ak h1,ct,decide_eq_false (by omega:¬ (v:Int)=(k:Int)),aC,ak hc.h0,bF,ak hS]
  refine aE 0 n (Nat.zero_le _) (fun x e h'=>∃ acc:List Int×σ,acc=(List.range x).foldl (iR Dof n r v (fC Dof doF n r m (v+1))) (vs,s)∧Abs acc.2 h'∧h'.get V=some (.cells (acc.1.map iv))∧acc.1.length=k∧gd n acc.1=true ∧
   (∀ b,base≤b→b<h.next→b≠V→h'.get b=h.get b)∧h.next≤h'.next∧e 0 = .int .i64 (v:Int)∧e 1 = .ptr N1 0∧e 2 = .ptr N2 0∧e 3 = .ptr N4 0∧e 4 = .ptr N0 0∧e 5 = .ptr N5 0∧e 6 = .ptr N6 0∧e 20 = .int .i64 (n:Int)∧e 21 = .int .i64 (x:Int))
   ⟨(vs,s),rfl,ha,hV,hvl,hvs,fun _ _ _ _=>rfl,Nat.le_refl _,rfl,rfl,rfl,rfl,rfl,rfl,rfl,rfl,rfl⟩ ?_ ?_
  ·rintro x e h' _ hx ⟨acc,hacc,qa,qV,ql,qin,qf,qn,e0,e1,e2,e3,e4,e5,e6,e20,e21⟩ K' hn hx' hr hp
   have hstep:(List.range (x+1)).foldl (iR Dof n r v (fC Dof doF n r m (v+1))) (vs,s)=iR Dof n r v (fC Dof doF n r m (v+1)) acc x:=by
    rw [List.range_succ,List.foldl_append,← hacc];rfl
   unfold iR at hstep
   have hc':=hc.keep qf qn
   have hst:=pg (v:=(x:Int)) qV (i:=v) (by omega)
   have hvk:v<k:=by omega
   rw [F.cP.aP]
   simp only [e0,e3,e5,e20,e21,aQ,Nat.reduceAdd,Nat.reduceEqDiff,reduceIte,bf hx,ak hc'.h4,j9 hvk,hst]
   have qn0:(h'.set V (.cells ((acc.1.set v (x:Int)).map iv))).next=h'.next:=af.next_set _ _ _
   have qg:∀ b,b≠V→(h'.set V (.cells ((acc.1.set v (x:Int)).map iv))).get b=h'.get b:=fun b hb=>by rw [af.aS,if_neg hb]
   have qV2:(h'.set V (.cells ((acc.1.set v (x:Int)).map iv))).get V=some (.cells ((acc.1.set v (x:Int)).map iv)):=by rw [af.aS,if_pos rfl]
   generalize (h'.set V (.cells ((acc.1.set v (x:Int)).map iv)))=H at qn0 qg qV2 ⊢
   have cH:=hc'.keep (h':=H) (fun b _ _ hb=>qg b hb) (by omega)
   have lV:=hc.lo.2.2.2.2.2.2
   have aH:=d.keep _ _ H qa (by omega) (fun b hb=>qg b (by omega)) (by omega)
   obtain ⟨sS,sD,sA⟩:=d.st _ _ aH
   have hl2:(acc.1.set v (x:Int)).length=k:=by rw [List.length_set];exact ql
   have hin2:=nM qin v hx
   generalize (acc.1.set v (x:Int))=vs2 at hstep qV2 hl2 hin2
   have c4:=cH.h4
   rw [← hl2] at c4
   simp only [ak cH.h5,aQ,Nat.reduceAdd,Nat.reduceEqDiff,reduceIte,callV_func,List.nil_append,List.cons_append]
   refine an (Dk (n:=n) (B:=B) (lo:=lo) (S:=S) hf hcs hls sS sD (by have:=d.sb;omega) cH.h0 cH.hi.1 cH.h1 cH.hi.2.1 c4 cH.hi.2.2.2.1 qV2 cH.hi.2.2.2.2.2.2 (by omega) hin2 d.n1 sA fun h3 x3=>?_)
   have c3:=cH.keep (fun b _ hb _=>x3.get b hb) x3.next
   have a3:=d.keep _ _ h3 aH (by omega) (fun b hb=>x3.get b (by omega)) x3.next
   have v3:h3.get V=some (.cells (vs2.map iv)):=by rw [x3.get V cH.hi.2.2.2.2.2.2];exact qV2
   have n3:=x3.next
   have f3:∀ b,base≤b→b<h.next→b≠V→h3.get b=h.get b:=fun b b1 b2 b3=>by rw [x3.get b (by omega),qg b b3,qf b b1 b2 b3]
   simp only [aQ,Nat.reduceAdd,Nat.reduceEqDiff,reduceIte]
   cases hask:wE n (cN (Dof acc.2)) r vs2 (v:Int) with
   |false=>
    rw [hask,if_neg (by simp)] at hstep
    simp only [aC,e21,aK hx (show n≤cy by unfold cy;omega),bindO_some]
    exact hn _ _ ⟨_,hstep.symm,a3,v3,hl2,hin2,f3,by omega,e0,e1,e2,e3,e4,e5,e6,e20,rfl⟩
   |true=>
    rw [hask,if_pos rfl] at hstep
    have hv1:=aK (i:=v) (n:=13) (by omega) (by unfold cy;omega)
    simp only [aD,e0,e6,ak c3.h6,aQ,Nat.reduceAdd,Nat.reduceEqDiff,reduceIte,hv1,callV_func,List.nil_append,List.cons_append]
    refine an (ih (v+1) (by omega) vs2 acc.2 h3 _ a3 (by omega) c3 v3 hl2 hin2 fun h4 a4 v4 f4 n4=>?_)
    obtain ⟨w1,w2⟩:=Dl (Dof:=Dof) (doF:=doF) (r:=r) (k:=k) m (v+1) vs2 acc.2 hl2 hin2
    simp only [aQ,Nat.reduceAdd,Nat.reduceEqDiff,reduceIte,Bool.not_true,aC,e21,aK hx (show n≤cy by unfold cy;omega)]
    exact hn _ _ ⟨_,hstep.symm,a4,v4,w1,w2,fun b b1 b2 b3=>by rw [f4 b b1 (by omega) b3,f3 b b1 b2 b3],by omega,e0,e1,e2,e3,e4,e5,e6,e20,rfl⟩
  ·rintro e h' ⟨acc,hacc,qa,qV,ql,qin,qf,qn,e0,e1,e2,e3,e4,e5,e6,e20,e21⟩ K' hx'
   rw [F.cP.aP]
   simp only [e20,e21,aQ,Nat.reduceAdd,Nat.reduceEqDiff,reduceIte,aR]
   rw [hx',F.cP.aG]
   have:fC Dof doF n r (m+1) v vs s=acc:=hacc.symm
   rw [this] at hK
   exact hK h' qa qV qf qn
end
end Go.AM
namespace Go.AM
open Go Go.Proofs
noncomputable section
def tL{σ:Type}(Dof:σ→bA→Option (Nat×List Bool))(doF:List Int→σ→σ)(n:Nat)(r:aJ)(k:Nat)(s:σ):σ:=
 if wE n (cN (Dof s)) r (List.replicate k 0) (-1)=true then (fC Dof doF n r k 0 (List.replicate k 0) s).2 else s
theorem uK(i:Int)(r:aJ)(n:Int)(hd:Sl Int)(cs:Sl (Sl Int))(ls:Sl Int):bq (bx i r n (aq encI 1 hd) (aq ey 1 cs) (aq encI 1 ls))=true:=by
 unfold bx
 simp only [bq,iz,Bool.and_true];rfl
theorem xb{n:Nat}(h:1≤n)(k:Nat):gd n (List.replicate k (0:Int))=true:=by
 unfold gd;rw [List.all_eq_true]
 intro x hx
 rw [(List.mem_replicate.1 hx).2]
 simp;omega
set_option maxHeartbeats 1000000 in
theorem EH{σ:Type}{Abs:σ→af→Prop}{Dof:σ→bA→Option (Nat×List Bool)}{doF:List Int→σ→σ}{S B n lo base k:Nat}{r:aJ}{g:FuncId}{ga gb:List AV}(d:L7 σ Abs Dof doF S B n lo base k r g ga gb)
  {i0:Int} {hd:Sl Int} {cs:Sl (Sl Int)} {ls:Sl Int} (hf:r.lR) (hk:k=(varsOf r).length) (hk12:k≤12) (hcs:cs.l.map Sl.l=r.body.l.map (fun c=>gq (varsOf r) c.args.l)) (hls:ls.l=r.body.l.map (fun c=>fS (placesOf (varsOf r) c.args.l)))
  {s:σ} {h:af} {K:Out→af→Bool} (ha:Abs s h) (hbn:base≤h.next)
  (hK:∀ h',Abs (tL Dof doF n r k s) h'→(∀ b,base≤b→b<h.next→h'.get b=h.get b)→h.next≤h'.next→K (.ret (.tuple [])) h'=true) :
  Sem Tryz.prog 122 [.ptr S 0,.agg (bx i0 r k (aq encI 1 hd) (aq ey 1 cs) (aq encI 1 ls)),.func g ga gb] h K:=by
 refine F.oV ?_
 rw [F.qM]
 simp only [ny (x:=.ptr S 0) rfl,cI (uK i0 r k hd cs ls),ny (x:=.func g ga gb) rfl,bindO_some,af.next_alloc]
 have g0:(((h.alloc (.cells [.ptr S 0])).alloc (.cells (bx i0 r k (aq encI 1 hd) (aq ey 1 cs) (aq encI 1 ls)))).alloc (.cells [.func g ga gb])).get h.next=some (.cells [.ptr S 0]):=by
  rw [af.aX,af.next_alloc,af.next_alloc,if_neg (by omega),af.aX,af.next_alloc,if_neg (by omega)];exact aI _ _
 have g1:(((h.alloc (.cells [.ptr S 0])).alloc (.cells (bx i0 r k (aq encI 1 hd) (aq ey 1 cs) (aq encI 1 ls)))).alloc (.cells [.func g ga gb])).get (h.next+1)=some (.cells (bx i0 r k (aq encI 1 hd) (aq ey 1 cs) (aq encI 1 ls))):=by
  rw [af.aX,af.next_alloc,af.next_alloc,if_neg (by omega)];exact aI _ _
 have g2:(((h.alloc (.cells [.ptr S 0])).alloc (.cells (bx i0 r k (aq encI 1 hd) (aq ey 1 cs) (aq encI 1 ls)))).alloc (.cells [.func g ga gb])).get (h.next+1+1)=some (.cells [.func g ga gb]):=aI _ _
 have gx:bK h (((h.alloc (.cells [.ptr S 0])).alloc (.cells (bx i0 r k (aq encI 1 hd) (aq ey 1 cs) (aq encI 1 ls)))).alloc (.cells [.func g ga gb])):=((bK.alloc _ _).trans (bK.alloc _ _)).trans (bK.alloc _ _)
 have gn:(((h.alloc (.cells [.ptr S 0])).alloc (.cells (bx i0 r k (aq encI 1 hd) (aq ey 1 cs) (aq encI 1 ls)))).alloc (.cells [.func g ga gb])).next=h.next+3:=rfl
 generalize (((h.alloc (.cells [.ptr S 0])).alloc (.cells (bx i0 r k (aq encI 1 hd) (aq ey 1 cs) (aq encI 1 ls)))).alloc (.cells [.func g ga gb]))=H3 at g0 g1 g2 gx gn ⊢
 have g1':=g1
 simp only [bx] at g1'
 simp only [aQ,Nat.reduceAdd,Nat.reduceEqDiff,reduceIte,ak g1',tE (show k≤1000000 by omega)]
 have v6:=aI H3 (.cells ((List.replicate k (0:Int)).map iv))
 have x6:=bK.alloc H3 (.cells ((List.replicate k (0:Int)).map iv))
 have n6:(H3.alloc (.cells ((List.replicate k (0:Int)).map iv))).next=H3.next+1:=af.next_alloc _ _
 generalize (H3.alloc (.cells ((List.replicate k (0:Int)).map iv)))=H6 at v6 x6 n6 ⊢
 obtain ⟨h7,s7,a7,o7,n7⟩:=jT (h:=H6) (z:=.nils) (v:=.slice H3.next 0 k 1) rfl rfl
 obtain ⟨h8,s8,a8,o8,n8⟩:=jT (h:=h7) (z:=.nilf) (v:=.func 166 [] [.ptr (h.next+1) 0,.ptr h.next 0,.ptr H6.next 0]) rfl rfl
 obtain ⟨h9,s9,a9,o9,n9⟩:=jT (h:=h8) (z:=.nilf) (v:=.func 167 [] [.ptr (h.next+1) 0,.ptr (h.next+1+1) 0,.ptr H6.next 0,.ptr h.next 0,.ptr h7.next 0,.ptr h8.next 0]) rfl rfl
 simp only [s7,s8,s9,bindO_some]
 have low:∀ b,b<H6.next→h9.get b=H6.get b:=fun b hb=>by rw [o9 b (by omega),o8 b (by omega),o7 b (by omega)]
 have c:Cells S n k h.next (h.next+1) (h.next+1+1) H6.next h7.next h8.next H3.next base i0 r hd cs ls g ga gb h9:=
  ⟨by rw [low _ (by omega),x6.get _ (by omega)];exact g0,by rw [low _ (by omega),x6.get _ (by omega)];exact g1,by rw [low _ (by omega),x6.get _ (by omega)];exact g2,
   by rw [o9 _ (by omega),o8 _ (by omega)];exact a7,by rw [o9 _ (by omega)];exact a8,a9,
   ⟨by omega,by omega,by omega,by omega,by omega,by omega,by omega⟩,⟨by omega,by omega,by omega,by omega,by omega,by omega,by omega⟩,⟨by omega,by omega,by omega,by omega,by omega,by omega⟩⟩
 have x9:bK h h9:=⟨by omega,fun b hb=>by rw [low b (by omega),x6.get b (by omega),gx.get b hb]⟩
 have v9:h9.get H3.next=some (.cells ((List.replicate k (0:Int)).map iv)):=by rw [low _ (by omega)];exact v6
 have a9':=d.keep _ _ h9 ha hbn (fun b hb=>x9.get b (by omega)) x9.next
 have hl0:(List.replicate k (0:Int)).length=k:=List.length_replicate
 have hin0:=xb d.n1 k
 obtain ⟨sS,sD,sA⟩:=d.st _ _ a9'
 have c4:=c.h4
 rw [← hl0] at c4
 generalize hvs:List.replicate k (0:Int)=vs0 at v9 hl0 hin0 c4
 have heF:tL Dof doF n r k s=if wE n (cN (Dof s)) r vs0 (-1)=true then (fC Dof doF n r k 0 vs0 s).2 else s:=by unfold tL;rw [hvs]
 simp only [aQ,Nat.reduceAdd,Nat.reduceEqDiff,reduceIte,ak c.h5,callV_func,List.nil_append,List.cons_append]
 refine an (Dk (n:=n) (B:=B) (lo:=lo) (S:=S) hf hcs hls sS sD (by have:=d.sb;have:=x9.next;omega) c.h0 c.hi.1 c.h1 c.hi.2.1 c4 c.hi.2.2.2.1 v9 c.hi.2.2.2.2.2.2 (by omega) hin0 d.n1 sA fun h10 x10=>?_)
 have n10:=x10.next
 have c10:=c.keep (fun b _ hb _=>x10.get b hb) n10
 have a10:=d.keep _ _ h10 a9' (by have:=x9.next;omega) (fun b hb=>x10.get b (by have:=x9.next;omega)) n10
 have v10:h10.get H3.next=some (.cells (vs0.map iv)):=by rw [x10.get _ c.hi.2.2.2.2.2.2];exact v9
 simp only [aQ,Nat.reduceAdd,Nat.reduceEqDiff,reduceIte]
 cases hask:wE n (cN (Dof s)) r vs0 (-1) with
 |false=>
  rw [hask,if_neg (by simp)] at heF
  rw [heF] at hK
  simp only [aC]
  exact hK h10 a10 (fun b _ b2=>(x9.trans x10).get b b2) (x9.trans x10).next
 |true=>
  rw [hask,if_pos rfl] at heF
  rw [heF] at hK
  simp only [aD,aQ,Nat.reduceAdd,Nat.reduceEqDiff,reduceIte,ak c10.h6,callV_func,List.nil_append,List.cons_append]
  refine an (Gq d hf hk hk12 hcs hls k 0 (by omega) vs0 s h10 _ a10 (by have:=x9.next;omega) c10 v10 hl0 hin0 fun h11 a11 v11 f11 n11=>?_)
  simp only [aQ,Nat.reduceAdd,Nat.reduceEqDiff,reduceIte]
  exact hK h11 a11 (fun b b1 b2=>by rw [f11 b b1 (by have:=x9.next;omega) (by omega),(x9.trans x10).get b b2]) (by have:=x9.next;omega)
end
end Go.AM
namespace Go.AM
open Go Go.Proofs
noncomputable section
abbrev DB:=bA→Option (Nat×List Bool)
def dK(D D0:DB):Prop:=∀ nm,(D nm).map (fun p=>(p.1,p.2.length))=(D0 nm).map (fun p=>(p.1,p.2.length))
theorem dK.get{D D0:DB}(h:dK D D0){nm:bA}{p0:Nat×List Bool}(h0:D0 nm=some p0):∃ p,D nm=some p∧p.1=p0.1∧p.2.length=p0.2.length:=by
 have:=h nm
 rw [h0] at this
 cases hd:D nm with
 |none=>rw [hd] at this;cases this
 |some p=>
  rw [hd] at this
  simp only [Option.map_some,Option.some.injEq,Prod.mk.injEq] at this
  exact ⟨p,rfl,this.1,this.2⟩
theorem dK.back{D D0:DB}(h:dK D D0){nm:bA}{p:Nat×List Bool}(hp:D nm=some p):∃ p0,D0 nm=some p0∧p.1=p0.1∧p.2.length=p0.2.length:=by
 have:=h nm
 rw [hp] at this
 cases hd:D0 nm with
 |none=>rw [hd] at this;cases this
 |some p0=>
  rw [hd] at this
  simp only [Option.map_some,Option.some.injEq,Prod.mk.injEq] at this
  exact ⟨p0,rfl,this.1,this.2⟩
theorem dK.set{D D0:DB}(h:dK D D0){nm:bA}{p:Nat×List Bool}(hp:D nm=some p){d:List Bool}(hd:d.length=p.2.length):dK (iQ D nm p.1 d) D0:=fun j=>by
 rw [← h j]
 unfold iQ
 by_cases e:j=nm
 ·rw [if_pos e,e,hp,Option.map_some,Option.map_some,hd]
 ·rw [if_neg e]
def oA(n:Nat)(r:aJ)(vs:List Int)(s:DB×Bool):DB×Bool:=
 match s.1 r.name with
 |none=>s
 |some p=>if p.2.getD (jH n (bZ vs (placesOf (varsOf r) r.args.l))) false=true then s else (iQ s.1 r.name p.1 (p.2.set (jH n (bZ vs (placesOf (varsOf r) r.args.l))) true),true)
structure lJ (S B n lo base P3 P5 P6 PL:Nat) (D0:DB) (r:aJ) (i0:Int) (k:Nat) (hd:Sl Int) (cs:Sl (Sl Int)) (ls:Sl Int) (ng:FuncId) (na nb:List AV) (h0:af) (s:DB×Bool) (h:af):Prop where
 hS:h.get S=some (.cells [.int .i64 (n:Int),.map B])
 hD:dm s.1 h B lo
 GF:dK s.1 D0
 h3:h.get P3=some (.cells [.ptr S 0])
 h5:h.get P5=some (.cells [.func ng na nb])
 h6:h.get P6=some (.cells [.bool s.2])
 hL:h.get PL=some (.cells (bx i0 r k (aq encI 1 hd) (aq ey 1 cs) (aq encI 1 ls)))
 lt:base≤h.next
 old:∀ b,b<base→b≠P6→(∀ nm p,D0 nm=some p→b≠p.1)→h.get b=h0.get b
structure FD (S B n lo base P3 P5 P6 PL:Nat) (D0:DB) (r:aJ) (k:Nat) (hd:Sl Int) (ng:FuncId) (na nb:List AV):Prop where
 n1:1≤n
 n64:n≤64
 low:S<base∧B<base∧P3<base∧P5<base∧P6<base∧PL<base
 rows:∀ nm p,D0 nm=some p→p.1<base∧p.1≠S∧p.1≠P3∧p.1≠P5∧p.1≠P6∧p.1≠PL
 six:P6≠S∧P6≠B∧P6≠P3∧P6≠P5∧P6≠PL
 ask:∀ D,dK D D0→yW n D r
 head:n ^ r.args.l.length≤4096∧r.args.l.length≤12∧∃ p,D0 r.name=some p∧p.2.length=n ^ r.args.l.length
 hkk:k=(varsOf r).length
 hhd:hd.l=gq (varsOf r) r.args.l
 note:∀ (i:Int) (r:aJ) (k:Int) (hd:Sl Int) (cs:Sl (Sl Int)) (ls:Sl Int) (y:AV) (h:af) (K:Out→af→Bool),(∀ h',bK h h'→K (.ret (.tuple [])) h'=true)→Sem Tryz.prog ng (na++([.agg (bx i r k (aq encI 1 hd) (aq ey 1 cs) (aq encI 1 ls)),y]++nb)) h K
theorem lJ.keep{S B n lo base P3 P5 P6 PL:Nat}{D0:DB}{r:aJ}{i0:Int}{k:Nat}{hd:Sl Int}{cs:Sl (Sl Int)}{ls:Sl Int}{ng:FuncId}{na nb:List AV}{h0:af}(o:FD S B n lo base P3 P5 P6 PL D0 r k hd ng na nb){s:DB×Bool}{h h':af}
  (a:lJ S B n lo base P3 P5 P6 PL D0 r i0 k hd cs ls ng na nb h0 s h) (hb:∀ b,b<base→h'.get b=h.get b) (hn:h.next≤h'.next):lJ S B n lo base P3 P5 P6 PL D0 r i0 k hd cs ls ng na nb h0 s h':=by
 obtain ⟨l1,l2,l3,l4,l5,l6⟩:=o.low
 refine ⟨by rw [hb _ l1];exact a.hS,?_,a.GF,by rw [hb _ l3];exact a.h3,by rw [hb _ l4];exact a.h5,by rw [hb _ l5];exact a.h6,by rw [hb _ l6];exact a.hL,Nat.le_trans a.lt hn,fun b b1 b2 b3=>by rw [hb b b1];exact a.old b b1 b2 b3⟩
 obtain ⟨es,ck,m,e1,e2,e3⟩:=a.hD.ex
 refine ⟨⟨es,ck,m,by rw [hb _ l2];exact e1,e2,e3⟩,fun nm p hp=>?_,a.hD.inj,Nat.lt_of_lt_of_le a.hD.lt hn⟩
 obtain ⟨q1,q2,q3,q4⟩:=a.hD.blk nm p hp
 obtain ⟨p0,r1,r2,_⟩:=a.GF.back hp
 have:=(o.rows nm p0 r1).1
 exact ⟨q1,Nat.lt_of_lt_of_le q2 hn,q3,by rw [hb _ (by omega)];exact q4⟩
set_option maxHeartbeats 1000000 in
theorem Ii{S B n lo base P3 P5 P6 PL:Nat}{D0:DB}{r:aJ}{i0:Int}{k:Nat}{hd:Sl Int}{cs:Sl (Sl Int)}{ls:Sl Int}{ng:FuncId}{na nb:List AV}{h0:af}(o:FD S B n lo base P3 P5 P6 PL D0 r k hd ng na nb){s:DB×Bool}{h:af}{V:Nat}{vs:List Int}{K:Out→af→Bool}
  (a:lJ S B n lo base P3 P5 P6 PL D0 r i0 k hd cs ls ng na nb h0 s h) (hVb:base≤V) (hVn:V<h.next) (hV:h.get V=some (.cells (vs.map iv))) (hvl:vs.length=k) (hvs:gd n vs=true)
  (hK:∀ h',lJ S B n lo base P3 P5 P6 PL D0 r i0 k hd cs ls ng na nb h0 (oA n r vs s) h'→(∀ b,base≤b→b<h.next→h'.get b=h.get b)→h.next≤h'.next→K (.ret (.bool true)) h'=true) :
  Sem Tryz.prog 158 ([]++([.slice V 0 vs.length 1]++[.ptr PL 0,.ptr P3 0,.ptr P6 0,.ptr P5 0])) h K:=by
 obtain ⟨l1,l2,l3,l4,l5,l6⟩:=o.low
 obtain ⟨hpow,h12,p0,hp0,hp0l⟩:=o.head
 have hL:=a.hL
 simp only [bx] at hL
 simp only [List.nil_append,List.cons_append]
 refine F.mT ?_
 rw [F.nH]
 simp only [aQ,Nat.reduceAdd,Nat.reduceEqDiff,reduceIte,ak hL]
 have hpl:∀ p ∈ placesOf (varsOf r) r.args.l,p<vs.length:=by rw [hvl,o.hkk];exact jU kM
 have hplen:(placesOf (varsOf r) r.args.l).length=r.args.l.length:=by unfold placesOf;simp
 refine an (FA (ps:=placesOf (varsOf r) r.args.l) hV hVn rfl o.hhd hpl (by rw [hplen];omega) fun h3 t1 x3 t2=>?_)
 have lt0:=a.lt
 have a3:=lJ.keep o a (fun b hb=>x3.get b (by omega)) x3.next
 obtain ⟨p,hp,hpb,hplen2⟩:=a3.GF.get hp0
 have hL3:=a3.hL
 simp only [bx] at hL3
 have hvlen:=jb vs (placesOf (varsOf r) r.args.l)
 have hin:=kN hvs hpl
 rw [← hvlen]
 have hdo:oA n r vs s=if p.2.getD (jH n (bZ vs (placesOf (varsOf r) r.args.l))) false=true then s else (iQ s.1 r.name p.1 (p.2.set (jH n (bZ vs (placesOf (varsOf r) r.args.l))) true),true):=by unfold oA;rw [hp]
 have hrk:jH n (bZ vs (placesOf (varsOf r) r.args.l))<p.2.length:=by
  have:=pK hin
  rw [hvlen,hplen] at this
  omega
 have hbit:p.2[jH n (bZ vs (placesOf (varsOf r) r.args.l))]?=some (p.2.getD (jH n (bZ vs (placesOf (varsOf r) r.args.l))) false):=by rw [List.getD_eq_getElem?_getD,List.getElem?_eq_getElem hrk];rfl
 obtain ⟨b1,b2,b3,b4⟩:=a3.hD.blk r.name p hp
 have hrank:∀ {K:Out→af→Bool},K (.ret (.int .i64 ((jH n (bZ vs (placesOf (varsOf r) r.args.l)):Nat):Int))) h3=true→Sem Tryz.prog 69 [.ptr S 0,.slice h.next 0 (bZ vs (placesOf (varsOf r) r.args.l)).length 1] h3 K:=fun hk=>vA a3.hS o.n1 t1 (by rw [hvlen,hplen];exact h12) (by rw [hvlen,hplen];exact hpow) hin hk
 generalize jH n (bZ vs (placesOf (varsOf r) r.args.l))=rk at hdo hrk hbit hrank
 simp only [aQ,Nat.reduceAdd,Nat.reduceEqDiff,reduceIte,ak a3.h3,bF,ak a3.hS,ak hL3,a3.hD.look hp]
 refine an (hrank ?_)
 simp only [aQ,Nat.reduceAdd,Nat.reduceEqDiff,reduceIte,j9 hrk,BY b4 hbit]
 cases hbv:p.2.getD rk false with
 |true=>
  rw [hbv,if_pos rfl] at hdo
  simp only [Bool.not_true,aC]
  rw [hdo] at hK
  exact hK h3 a3 (fun b _ b2=>x3.get b b2) x3.next
 |false=>
  rw [hbv,if_neg (by simp)] at hdo
  simp only [Bool.not_false,aD,ak a3.h3,aQ,Nat.reduceAdd,Nat.reduceEqDiff,reduceIte]
  refine an (hrank ?_)
  obtain ⟨w1,w2,w3,w4,w5,w6⟩:=o.rows r.name p0 hp0
  rw [← hpb] at w1 w2 w3 w4 w5 w6
  obtain ⟨y1,y2,y3,y4,y5⟩:=o.six
  have hset:=a3.hD.set hp (d:=p.2.set rk true) (by simp)
  have st1:=Dd (v:=true) b4 hrk
  have g6:(h3.set p.1 (.cells ((p.2.set rk true).map bv))).get P6=some (.cells [.bool s.2]):=by rw [af.aS,if_neg (Ne.symm w5)];exact a3.h6
  have st2:bH 1 (.ptr P6 0) (.bool true) (h3.set p.1 (.cells ((p.2.set rk true).map bv)))=some ((h3.set p.1 (.cells ((p.2.set rk true).map bv))).set P6 (.cells [.bool true])):=by
   rw [dr (n:=1) g6 rfl rfl (by simp)];rfl
  have q:∀ b,b≠p.1→b≠P6→((h3.set p.1 (.cells ((p.2.set rk true).map bv))).set P6 (.cells [.bool true])).get b=h3.get b:=fun b hb1 hb2=>by rw [af.aS,if_neg hb2,af.aS,if_neg hb1]
  have q6:((h3.set p.1 (.cells ((p.2.set rk true).map bv))).set P6 (.cells [.bool true])).get P6=some (.cells [.bool true]):=by rw [af.aS,if_pos rfl]
  have qn:((h3.set p.1 (.cells ((p.2.set rk true).map bv))).set P6 (.cells [.bool true])).next=h3.next:=by rw [af.next_set,af.next_set]
  have hD':dm (iQ s.1 r.name p.1 (p.2.set rk true)) ((h3.set p.1 (.cells ((p.2.set rk true).map bv))).set P6 (.cells [.bool true])) B lo:=by
   obtain ⟨es,ck,m,e1,e2,e3⟩:=hset.ex
   refine ⟨⟨es,ck,m,by rw [af.aS,if_neg (Ne.symm y2)];exact e1,e2,e3⟩,fun nm p' hp'=>?_,hset.inj,by rw [af.next_set];exact hset.lt⟩
   obtain ⟨c1,c2,c3,c4⟩:=hset.blk nm p' hp'
   obtain ⟨p0',d1,d2,_⟩:=(a3.GF.set hp (d:=p.2.set rk true) (by simp)).back hp'
   have:=(o.rows nm p0' d1).2.2.2.2.1
   exact ⟨c1,by rw [af.next_set];exact c2,c3,by rw [af.aS,if_neg (by rw [d2];exact this)];exact c4⟩
  simp only [aQ,Nat.reduceAdd,Nat.reduceEqDiff,reduceIte,j9 hrk,st1,st2]
  generalize ((h3.set p.1 (.cells ((p.2.set rk true).map bv))).set P6 (.cells [.bool true]))=H at q q6 qn hD' ⊢
  have aH:lJ S B n lo base P3 P5 P6 PL D0 r i0 k hd cs ls ng na nb h0 (oA n r vs s) H:=by
   rw [hdo]
   exact ⟨by rw [q S (Ne.symm w2) (Ne.symm y1)];exact a3.hS,hD',a3.GF.set hp (by simp),by rw [q P3 (Ne.symm w3) (Ne.symm y3)];exact a3.h3,by rw [q P5 (Ne.symm w4) (Ne.symm y4)];exact a3.h5,q6,by rw [q PL (Ne.symm w6) (Ne.symm y5)];exact a3.hL,by rw [qn];exact a3.lt,fun b b1 b2 b3=>by rw [q b (by rw [hpb];exact b3 _ _ hp0) b2];exact a3.old b b1 b2 b3⟩
  have hLH:=aH.hL
  simp only [bx] at hLH
  simp only [ak aH.h5,ak hLH,FC,aQ,Nat.reduceAdd,Nat.reduceEqDiff,reduceIte,callV_func]
  refine an (o.note i0 r k hd cs ls _ H _ fun h9 x9=>?_)
  simp only [aQ,Nat.reduceAdd,Nat.reduceEqDiff,reduceIte]
  have ltH:=aH.lt
  have n9:=x9.next
  exact hK h9 (lJ.keep o aH (fun b hb=>x9.get b (by omega)) n9) (fun b b1 b2=>by have:=x3.next;rw [x9.get b (by omega),q b (by omega) (by omega),x3.get b b2]) (by have:=x3.next;omega)
theorem EI{S B n lo base P3 P5 P6 PL:Nat}{D0:DB}{r:aJ}{i0:Int}{k:Nat}{hd:Sl Int}{cs:Sl (Sl Int)}{ls:Sl Int}{ng:FuncId}{na nb:List AV}{h0:af}(o:FD S B n lo base P3 P5 P6 PL D0 r k hd ng na nb) :
  L7 (DB×Bool) (lJ S B n lo base P3 P5 P6 PL D0 r i0 k hd cs ls ng na nb h0) (fun s=>s.1) (oA n r) S B n lo base k r 158 [] [.ptr PL 0,.ptr P3 0,.ptr P6 0,.ptr P5 0]:=
 ⟨o.n1,o.n64,o.low.1,fun s h a=>⟨a.hS,a.hD,o.ask _ a.GF⟩,fun s h h' a _ hb hn=>lJ.keep o a hb hn,fun s h V vs K a h1 h2 h3 h4 h5 hK=>Ii o a h1 h2 h3 h4 h5 hK⟩
end
end Go.AM
namespace Go.AM
open Go Go.Proofs
noncomputable section
theorem yX{σ:Type}{Dof:σ→DB}{doF:List Int→σ→σ}{n:Nat}{r:aJ}{k:Nat}{Q:σ→Prop}(hQ:∀ vs s,vs.length=k→gd n vs=true→Q s→Q (doF vs s)):∀ (m v:Nat) (vs:List Int) (s:σ),vs.length=k→gd n vs=true→Q s →
  ((fC Dof doF n r m v vs s).1.length=k∧gd n (fC Dof doF n r m v vs s).1=true)∧Q (fC Dof doF n r m v vs s).2
 |0,v,vs,s,h1,h2,h3=>⟨⟨h1,h2⟩,hQ vs s h1 h2 h3⟩
 |m+1,v,vs,s,h1,h2,h3=>by
  refine gG (P:=fun (a:List Int×σ)=>(a.1.length=k∧gd n a.1=true)∧Q a.2) ⟨⟨h1,h2⟩,h3⟩ fun a x hx ha=>?_
  have hxn:=List.mem_range.1 hx
  have h3:(a.1.set v (x:Int)).length=k:=by rw [List.length_set];exact ha.1.1
  have h4:=nM ha.1.2 v hxn
  unfold iR
  split
  ·exact yX hQ m (v+1) _ _ h3 h4 ha.2
  ·exact ⟨⟨h3,h4⟩,ha.2⟩
theorem nN{σ:Type}{Dof:σ→DB}{doF:List Int→σ→σ}{n:Nat}{r:aJ}{k:Nat}{Q:σ→Prop}(n1:1≤n)(hQ:∀ vs s,vs.length=k→gd n vs=true→Q s→Q (doF vs s)){s:σ}(hs:Q s):Q (tL Dof doF n r k s):=by
 unfold tL
 split
 ·exact (yX hQ k 0 _ _ List.length_replicate (xb n1 k) hs).2
 ·exact hs
structure tM where
 i:Int
 r:aJ
 hd:Sl Int
 cs:Sl (Sl Int)
 ls:Sl Int
def pN(p:tM):List AV:=bx p.i p.r (varsOf p.r).length (aq encI 1 p.hd) (aq ey 1 p.cs) (aq encI 1 p.ls)
theorem AS(p:tM):(pN p).length=8:=rfl
theorem AT(p:tM):bq (pN p)=true:=uK _ _ _ _ _ _
structure tM.ok (p:tM):Prop where
 lR:p.r.lR
 k12:(varsOf p.r).length≤12
 hd:p.hd.l=gq (varsOf p.r) p.r.args.l
 cs:p.cs.l.map Sl.l=p.r.body.l.map (fun c=>gq (varsOf p.r) c.args.l)
 ls:p.ls.l=p.r.body.l.map (fun c=>fS (placesOf (varsOf p.r) c.args.l))
def iI(n:Nat)(r:aJ)(s:DB×Bool):DB×Bool:=tL (fun s=>s.1) (oA n r) n r (varsOf r).length s
def jA(n:Nat)(rs:List aJ)(s:DB×Bool):DB×Bool:=rs.foldl (fun s r=>iI n r s) s
theorem EJ{n:Nat}{rs:List aJ}{i:Nat}{r:aJ}(hr:rs[i]?=some r)(s:DB×Bool):jA n (rs.take (i+1)) s=iI n r (jA n (rs.take i) s):=by
 unfold jA;rw [List.take_add_one,hr];simp
inductive Reach (n:Nat) (rs:List aJ) (D0:DB):DB→Prop
 |refl:Reach n rs D0 D0
 |step (D:DB):Reach n rs D0 D→Reach n rs D0 (jA n rs (D,false)).1
theorem BZ:∀ (l:List Bool) (i:Nat),l[i]?=some false→(l.set i true).count false<l.count false
 |[],i,h=>by simp at h
 |b :: l,0,h=>by
  simp only [List.getElem?_cons_zero,Option.some.injEq] at h
  subst h;simp
 |b :: l,i+1,h=>by
  rw [List.getElem?_cons_succ] at h
  have:=BZ l i h
  rw [List.set_cons_succ,List.count_cons,List.count_cons];omega
def L8(D:DB)(nm:bA):Nat:=match D nm with|none=>0|some p=>p.2.count false
def yY(names:List bA)(D:DB):Nat:=(names.map (L8 D)).sum
structure Dm (names:List bA) (D0 D:DB) (s:DB×Bool):Prop where
 GF:dK s.1 D0
 le:yY names s.1≤yY names D
 lt:s.2=true→yY names s.1<yY names D
 same:s.2=false→s.1=D
theorem Ij{names:List bA}{D0 D:DB}{n:Nat}{r:aJ}{k:Nat}(hin:r.name ∈ names)(hk:k=(varsOf r).length)(hh:∃ p,D0 r.name=some p∧p.2.length=n ^ r.args.l.length){vs:List Int}{s:DB×Bool}(hvl:vs.length=k)(hvs:gd n vs=true)(q:Dm names D0 D s):Dm names D0 D (oA n r vs s):=by
 obtain ⟨p0,hp0,hl0⟩:=hh
 obtain ⟨p,hp,_,hl⟩:=q.GF.get hp0
 have hpl:∀ p ∈ placesOf (varsOf r) r.args.l,p<vs.length:=by rw [hvl,hk];exact jU kM
 have hplen:(placesOf (varsOf r) r.args.l).length=r.args.l.length:=by unfold placesOf;simp
 have hrk:jH n (bZ vs (placesOf (varsOf r) r.args.l))<p.2.length:=by
  have:=pK (kN hvs hpl)
  rw [jb,hplen] at this
  omega
 have hdo:oA n r vs s=if p.2.getD (jH n (bZ vs (placesOf (varsOf r) r.args.l))) false=true then s else (iQ s.1 r.name p.1 (p.2.set (jH n (bZ vs (placesOf (varsOf r) r.args.l))) true),true):=by unfold oA;rw [hp]
 rw [hdo]
 generalize jH n (bZ vs (placesOf (varsOf r) r.args.l))=rk at hrk ⊢
 split
 ·exact q
 ·rename_i hb
  have hbit:p.2[rk]?=some false:=by
   rw [List.getD_eq_getElem?_getD,List.getElem?_eq_getElem hrk] at hb
   rw [List.getElem?_eq_getElem hrk]
   simp only [Option.getD_some,Bool.not_eq_true] at hb
   rw [hb]
  have hlt:yY names (iQ s.1 r.name p.1 (p.2.set rk true))<yY names s.1:=by
   refine Lev.DV (fun nm=>?_) (t:=r.name) ?_ hin
   ·unfold L8 iQ
    by_cases e:nm=r.name
    ·subst e;rw [if_pos rfl,hp];exact Nat.le_of_lt (BZ _ _ hbit)
    ·rw [if_neg e];exact Nat.le_refl _
   ·unfold L8 iQ
    rw [if_pos rfl,hp];exact BZ _ _ hbit
  have:=q.le
  exact ⟨q.GF.set hp (by simp),by show yY names (iQ s.1 r.name p.1 (p.2.set rk true))≤_;omega,fun _=>by show yY names (iQ s.1 r.name p.1 (p.2.set rk true))<_;omega,fun h=>by cases h⟩
theorem Dp{names:List bA}{D0 D:DB}{n:Nat}{r:aJ}(n1:1≤n)(hin:r.name ∈ names)(hh:∃ p,D0 r.name=some p∧p.2.length=n ^ r.args.l.length){s:DB×Bool}(q:Dm names D0 D s):Dm names D0 D (iI n r s):=
 nN n1 (fun vs s h1 h2 h3=>Ij hin rfl hh h1 h2 h3) q
end
end Go.AM
namespace Go.AM
open Go Go.Proofs
noncomputable section
theorem vC(nm:bA)(xs:List bA):jI nm xs=(dB nm&&jz xs):=by
 unfold jI jz;rw [Bool.and_comm (xs.all dB)]
def gI(r:aJ):Bool:=dB r.name&&(jz r.args.l&&(decide (r.body.l.length≤20)&&(r.body.l.all eZ&&decide ((varsOf r).length≤12))))
theorem cu{r:aJ}(hok:r.ok)(hf:r.lR){h:af}{K:Out→af→Bool}(hK:K (.ret (.bool (gI r))) h=true) :
  Sem Tryz.prog 84 [.agg [.str r.name,aq encS 1 r.args,aq bJ 4 r.body]] h K:=by
 refine Sem.data (r:=.bool (gI r)) ?_ (by have:=eC r;simpa [aM,AV.pureL,AV.pure] using this) hK
 clear hK
 have hbb:r.body.l.length≤cy:=hok.2.2.2.1
 refine F.yj ?_
 rw [F.zP]
 have g0:(af.alloc af.empty (.cells (aM r))).get 0=some (.cells (aM r)):=aI _ _
 have gn:(af.alloc af.empty (.cells (aM r))).next=1:=rfl
 have hb:ef (.agg [.str r.name,aq encS 1 r.args,aq bJ 4 r.body])=some (aM r):=cI (ji r)
 simp only [hb,bindO_some,bM]
 generalize (af.alloc af.empty (.cells (aM r)))=H at g0 gn ⊢
 have fin:∀ (b:Bool) h',b=gI r→lU (.bool (gI r)) (.ret (.bool b)) h'=true:=fun b h' hb=>by rw [hb];exact eV rfl
 generalize lU (.bool (gI r))=R at fin ⊢
 simp only [aQ,Nat.reduceAdd,Nat.reduceEqDiff,reduceIte,ak g0,aM]
 refine an (dF ?_)
 simp only [aQ,Nat.reduceAdd,Nat.reduceEqDiff,reduceIte]
 cases hn:dB r.name with
 |false=>simp only [Bool.not_false,aD];exact fin _ _ (by simp [gI,hn])
 |true=>
 simp only [Bool.not_true,aC,aQ,Nat.reduceAdd,Nat.reduceEqDiff,reduceIte,ak g0,aM]
 refine an (de hok.2.1 ?_)
 simp only [aQ,Nat.reduceAdd,Nat.reduceEqDiff,reduceIte]
 cases hnd:jz r.args.l with
 |false=>simp only [Bool.not_false,aD];exact fin _ _ (by simp [gI,hnd])
 |true=>
 simp only [Bool.not_true,aC,aQ,Nat.reduceAdd,Nat.reduceEqDiff,reduceIte,ak g0,aM]
 by_cases h20:20<r.body.l.length
 ·simp only [decide_eq_true (by omega:(20:Int)<(r.body.l.length:Int)),aD]
  exact fin _ _ (by simp [gI,show ¬ r.body.l.length≤20 by omega])
 simp only [decide_eq_false (by omega:¬ (20:Int)<(r.body.l.length:Int)),aC]
 have h20':r.body.l.length≤20:=by omega
 refine aE 0 r.body.l.length (Nat.zero_le _) (fun i e h'=>bK H h'∧e 1 = .ptr 0 0∧e 3 = .int .i64 (i:Int)∧(r.body.l.take i).all eZ=true) ⟨bK.refl _,rfl,rfl,rfl⟩ ?_ ?_
 ·rintro i e h' _ hi ⟨x1,e1,e3,ht⟩ K' hnn hx hr hp
  have hv:r.body.l[i]?=some r.body.l[i]:=List.getElem?_eq_getElem hi
  generalize r.body.l[i]=c at hv
  have hcok:=hok.2.2.2.2 c (List.mem_of_getElem? hv)
  have q0:h'.get 0=some (.cells (aM r)):=by rw [x1.get 0 (by omega)];exact g0
  obtain ⟨H2,hs2,k1,ko,kn⟩:=cJ (h:=h') (zs:=[.int .i64 0,.bool false,.str [],.nils]) (cs:=bJ c) (n:=4) rfl rfl (fY c)
  have x2:bK H H2:=x1.trans ⟨by omega,fun b hb=>ko b (by omega)⟩
  have no:eZ c=false→∀ h',R (.ret (.bool false)) h'=true:=fun hc h'=>fin _ _ (by simp [gI,all_false hv hc])
  rw [F.cu.aP]
  simp only [e1,e3,aQ,Nat.reduceAdd,Nat.reduceEqDiff,reduceIte,ak q0,aM,bf hi,aT r.body hi,c8 fX hv,hs2]
  simp only [aQ,Nat.reduceAdd,Nat.reduceEqDiff,reduceIte,ak k1,bJ,ct]
  by_cases k0:c.kind=0
  ·have hco:eZ c=(dB c.name&&jz c.args.l):=by unfold eZ;rw [if_pos k0,vC]
   simp only [decide_eq_true k0,aD,aQ,Nat.reduceAdd,Nat.reduceEqDiff,reduceIte,ak k1,bJ]
   refine an (dF ?_)
   simp only [aQ,Nat.reduceAdd,Nat.reduceEqDiff,reduceIte]
   cases n1:dB c.name with
   |false=>
    simp only [Bool.not_false,aD]
    rw [hr,F.cu.bp]
    exact no (by rw [hco,n1];rfl) _
   |true=>
   simp only [Bool.not_true,aC,aQ,Nat.reduceAdd,Nat.reduceEqDiff,reduceIte,ak k1,bJ]
   refine an (de hcok.2.1 ?_)
   simp only [aQ,Nat.reduceAdd,Nat.reduceEqDiff,reduceIte]
   cases n2:jz c.args.l with
   |false=>
    simp only [Bool.not_false,aD]
    rw [hr,F.cu.bp]
    exact no (by rw [hco,n2,Bool.and_false]) _
   |true=>
   simp only [Bool.not_true,aC,aK hi hbb,bindO_some]
   exact hnn _ _ ⟨x2,e1,rfl,gz hv ht (by rw [hco,n1,n2];rfl)⟩
  simp only [decide_eq_false k0,aC]
  have J:∀ (e:Env) (b:Bool),e 1 = .ptr 0 0→e 3 = .int .i64 (i:Int)→e 4 = .ptr h'.next 0→e 44 = .bool b→(b=true↔(c.kind=1∨c.kind=2))→F.cu.J0 K' ⟨e,67,[],H2⟩=true:=by
   intro e b e1 e3 e4 e44 hb
   rw [F.cu.yh]
   simp only [e4,e44,aQ,Nat.reduceAdd,Nat.reduceEqDiff,reduceIte]
   cases b with
   |false=>
    simp only [aC]
    have:¬ (c.kind=1∨c.kind=2):=fun h=>by have:=hb.2 h;cases this
    rw [hr,F.cu.bp]
    exact no (by unfold eZ;rw [if_neg k0,if_neg this]) _
   |true=>
    have hk:=hb.1 rfl
    have hc1:eZ c=(decide (c.name = [])&&(decide (c.args.l.length=2)&&c.args.l.all dB)):=by simp only [eZ,if_neg k0,if_pos hk]
    simp only [aD,aQ,Nat.reduceAdd,Nat.reduceEqDiff,reduceIte,ak k1,bJ,nJ]
    by_cases hn:c.name = []
    ·simp only [decide_eq_true hn,Bool.not_true,aC,aQ,Nat.reduceAdd,Nat.reduceEqDiff,reduceIte,ak k1,bJ,ct]
     by_cases h2:c.args.l.length=2
     ·simp only [decide_eq_true (by omega:(c.args.l.length:Int)=2),Bool.not_true,aC,aQ,Nat.reduceAdd,Nat.reduceEqDiff,reduceIte,ak k1,bJ]
      refine an (de hcok.2.1 ?_)
      simp only [aQ,Nat.reduceAdd,Nat.reduceEqDiff,reduceIte]
      have hnm:jz c.args.l=c.args.l.all dB:=by unfold jz;rw [decide_eq_true (by omega:c.args.l.length≤12),Bool.and_true]
      rw [hnm]
      cases n2:c.args.l.all dB with
      |false=>
       simp only [Bool.not_false,aD]
       rw [hr,F.cu.bp]
       exact no (by rw [hc1,n2,Bool.and_false,Bool.and_false]) _
      |true=>
       simp only [Bool.not_true,aC,e3,aK hi hbb,bindO_some]
       exact hnn _ _ ⟨x2,e1,rfl,gz hv ht (by rw [hc1,n2];simp [hn,h2])⟩
     ·simp only [decide_eq_false (by omega:¬ (c.args.l.length:Int)=2),Bool.not_false,aD]
      rw [hr,F.cu.bp]
      exact no (by rw [hc1];simp [h2]) _
    ·simp only [decide_eq_false hn,Bool.not_false,aD]
     rw [hr,F.cu.bp]
     exact no (by rw [hc1];simp [hn]) _
  by_cases k1':c.kind=1
  ·simp only [decide_eq_true k1',aD]
   exact J _ true e1 e3 rfl rfl (by simp [k1'])
  ·simp only [decide_eq_false k1',aC]
   exact J _ (decide (c.kind=2)) e1 e3 rfl rfl (by simp [k1'])
 ·rintro e h' ⟨x1,e1,e3,ht⟩ K' hx
  have q0:h'.get 0=some (.cells (aM r)):=by rw [x1.get 0 (by omega)];exact g0
  rw [F.cu.aP]
  simp only [e1,e3,aQ,Nat.reduceAdd,Nat.reduceEqDiff,reduceIte,ak q0,aM,aR]
  rw [hx,F.cu.aG]
  simp only [e1,aQ,Nat.reduceAdd,Nat.reduceEqDiff,reduceIte,ak q0,aM,nL]
  refine an (bC hf fun x hx1=>?_)
  simp only [aQ,Nat.reduceAdd,Nat.reduceEqDiff,reduceIte,hx1]
  rw [List.take_of_length_le (Nat.le_refl _)] at ht
  refine fin _ _ ?_
  unfold gI
  rw [hn,hnd,decide_eq_true h20',ht]
  by_cases h12:(varsOf r).length≤12
  ·rw [decide_eq_true h12,decide_eq_true (by omega:((varsOf r).length:Int)≤12)];rfl
  ·rw [decide_eq_false h12,decide_eq_false (by omega:¬ ((varsOf r).length:Int)≤12)];rfl
def dw(cs:List dI):List (bA×Int):=(cs.filter fun c=>decide (c.kind=0)).map fun c=>(c.name,(c.args.l.length:Int))
def rZ(r:aJ):List (bA×Int):=(r.name,(r.args.l.length:Int)) :: dw r.body.l
def cm(rs:List aJ):List (bA×Int):=rs.flatMap rZ
theorem yZ{cs:List dI}{j:Nat}{c:dI}(hc:cs[j]?=some c):dw (cs.take (j+1))=dw (cs.take j)++if c.kind=0 then [(c.name,(c.args.l.length:Int))] else []:=by
 unfold dw;rw [List.take_add_one,hc,Option.toList_some,List.filter_append,List.map_append]
 by_cases h:c.kind=0<;>simp [h]
theorem mG(cs:List dI):(dw cs).length≤cs.length:=by
 unfold dw;rw [List.length_map];exact List.length_filter_le _ _
theorem pO:∀ rs:List aJ,(∀ r ∈ rs,r.body.l.length≤20)→(cm rs).length≤rs.length*21
 |[],_=>Nat.le_refl _
 |r :: rs,h=>by
  have h1:=pO rs fun q hq=>h q (List.mem_cons_of_mem _ hq)
  have h2:=mG r.body.l
  have h3:=h r List.mem_cons_self
  show (rZ r++cm rs).length≤_
  unfold rZ
  rw [List.length_append,List.length_cons,List.length_cons];omega
theorem cp{rules:Sl aJ}(h60:rules.l.length≤60)(h20:∀ r ∈ rules.l,r.body.l.length≤20){h:af}{K:Out→af→Bool}(hK:∀ x:Sl (bA×Int),x.l=cm rules.l→K (.ret (aq kg 2 x)) h=true) :
  Sem Tryz.prog 85 [aq aM 3 rules] h K:=by
 have hbig:rules.l.length≤cy:=by unfold cy;omega
 have hmx:cZ=140737488355328:=rfl
 have main:Sem Tryz.prog 85 [aq aM 3 rules] af.empty (fun o h'=>yes (∃ v,∃ x:Sl (bA×Int),o = .ret v∧x.l=cm rules.l∧Fz true h' v (aq kg 2 x))):=by
  refine F.vU ?_
  rw [F.ye]
  refine aE 0 rules.l.length (Nat.zero_le _) (fun i e h'=>∃ a,Own kg 2 0 h' a (cm (rules.l.take i))∧e 0=aq aM 3 rules∧e 3=a∧e 4 = .int .i64 (i:Int)) ⟨.nils,.nil,rfl,rfl,rfl⟩ ?_ ?_
  ·rintro i e h' _ hi ⟨a,o,e0,e3,e4⟩ K' hn hx hr hp
   have hv:rules.l[i]?=some rules.l[i]:=List.getElem?_eq_getElem hi
   generalize rules.l[i]=r at hv
   have hb20:=h20 r (List.mem_of_getElem? hv)
   have hbb:r.body.l.length≤cy:=by unfold cy;omega
   have ld:∀ j,j<3→∀ h,aj none (.iptr (rules.l.flatMap aM) (i*3+j)) h=(aM r)[j]?:=fun j hj h=>eN eP hv hj
   have ld0:∀ h,aj none (.iptr (rules.l.flatMap aM) (i*3)) h=some (.str r.name):=fun h=>ld 0 (by omega) h
   have hal:(cm (rules.l.take i)).length≤1260:=by
    have h1:=pO (rules.l.take i) fun q hq=>h20 q (List.mem_of_mem_take hq)
    have h2:=List.length_take_le i rules.l
    omega
   obtain ⟨a1,h1,p1,p2,p3,p4,p5,p6⟩:=o.push lG (fun x=>rfl) (Nat.zero_le _) (bytes:=24) (by omega) (r.name,(r.args.l.length:Int))
   rw [F.cp.aP]
   simp only [e0,e3,e4,aQ,Nat.reduceAdd,Nat.reduceEqDiff,reduceIte,bf hi,aT rules hi,ld0,ld 1 (by omega),aM,HR,HS,p1]
   refine aE 0 r.body.l.length (Nat.zero_le _) (fun j e h2=>∃ a,Own kg 2 0 h2 a (cm (rules.l.take i)++(r.name,(r.args.l.length:Int)) :: dw (r.body.l.take j))∧e 0=aq aM 3 rules∧e 3=a∧e 4 = .int .i64 (i:Int)∧e 5 = .int .i64 (j:Int))
    ⟨a1,by simpa [dw] using p2,e0,rfl,e4,rfl⟩ ?_ ?_
   ·rintro j e h2 _ hj ⟨a,o,e0,e3,e4,e5⟩ K2 hn2 hx2 hr2 hp2
    have hc:r.body.l[j]?=some r.body.l[j]:=List.getElem?_eq_getElem hj
    generalize r.body.l[j]=c at hc
    obtain ⟨H2,hs2,k1,ko,kn⟩:=cJ (h:=h2) (zs:=[.int .i64 0,.bool false,.str [],.nils]) (cs:=bJ c) (n:=4) rfl rfl (fY c)
    have x2:bK h2 H2:=⟨by omega,fun b hb=>ko b (by omega)⟩
    have hst:=yZ hc
    rw [F.cp.dc]
    simp only [e0,e3,e4,e5,aQ,Nat.reduceAdd,Nat.reduceEqDiff,reduceIte,aT rules hi,ld 2 (by omega),aM,bf hj,aT r.body hj,c8 fX hc,hs2]
    simp only [aQ,Nat.reduceAdd,Nat.reduceEqDiff,reduceIte,ak k1,bJ,ct]
    by_cases k0:c.kind=0
    ·rw [if_pos k0] at hst
     have hcl:(dw (r.body.l.take j)).length≤20:=by
      have h1:=mG (r.body.l.take j)
      have h2:=List.length_take_le' j r.body.l
      omega
     obtain ⟨a2,h3,s1,s2,s3,s4,s5,s6⟩:=(o.ext x2).push lG (fun x=>rfl) (Nat.zero_le _) (bytes:=24) (by rw [List.length_append,List.length_cons];omega) (c.name,(c.args.l.length:Int))
     simp only [decide_eq_true k0,aD,aQ,Nat.reduceAdd,Nat.reduceEqDiff,reduceIte,ak k1,bJ,HR,HS,s1,aK hj hbb]
     refine hn2 _ _ ⟨a2,?_,e0,rfl,e4,rfl⟩
     rw [hst];simpa using s2
    ·rw [if_neg k0,List.append_nil] at hst
     simp only [decide_eq_false k0,aC,aK hj hbb,bindO_some]
     exact hn2 _ _ ⟨a,by rw [hst];exact o.ext x2,e0,e3,e4,rfl⟩
   ·rintro e h2 ⟨a,o,e0,e3,e4,e5⟩ K2 hx2
    rw [F.cp.dc]
    simp only [e0,e4,e5,aQ,Nat.reduceAdd,Nat.reduceEqDiff,reduceIte,aT rules hi,ld 2 (by omega),aM,aR]
    rw [hx2,F.cp.cx]
    simp only [e4,aQ,Nat.reduceAdd,Nat.reduceEqDiff,reduceIte,aK hi hbig]
    refine hn _ _ ⟨a,?_,e0,e3,rfl⟩
    rw [List.take_of_length_le (Nat.le_refl _)] at o
    have:cm (rules.l.take (i+1))=cm (rules.l.take i)++(r.name,(r.args.l.length:Int)) :: dw r.body.l:=by
     unfold cm;rw [List.take_add_one,hv];simp [rZ]
    rw [this];exact o
  ·rintro e h' ⟨a,o,e0,e3,e4⟩ K' hx
   rw [F.cp.aP]
   simp only [e0,e4,aQ,Nat.reduceAdd,Nat.reduceEqDiff,reduceIte,aR]
   rw [hx,F.cp.aG]
   rw [List.take_of_length_le (Nat.le_refl _)] at o
   simp only [bE,Nat.reduceEqDiff,reduceIte,e3]
   obtain ⟨x,hx1,hx2⟩:=o.Ez (fun v y hy=>by
    simp only [kg,List.mem_cons,List.not_mem_nil,or_false] at hy
    rcases hy with rfl|rfl<;>exact .scalar _ rfl)
   exact cz.2 ⟨a,x,rfl,hx1,hx2⟩
 refine main.frozen (by simp [AV.pureL,cj eC]) fun o h' ho=>?_
 obtain ⟨v,x,rfl,hx,hf⟩:=cz.1 ho
 exact ⟨v,_,rfl,hf,hK x hx⟩
end
end Go.AM
namespace Go.AM
open Go Go.Proofs
noncomputable section
theorem vE{f:St→(AX→St→Bool)→Bool}{K:AX→St→Bool}{n:Nat}{defs:List kz}{e0:Env}{h0:af}(I:Nat→Env→af→Prop)(m:Nat)(hI:I m e0 h0)
  (step:∀ m e h,I m e h→∀ K':AX→St→Bool,(∀ m' e' h',m'<m→I m' e' h'→K' .normal ⟨e',n,defs,h'⟩=true)→(∀ id s,K' (.exit id) s=K (.exit id) s)→(∀ s,K' .ret s=K .ret s)→f ⟨e,n,defs,h⟩ K'=true):bS f ⟨e0,n,defs,h0⟩ K=true:=
 iZ I m hI fun m e h hi=>step m e h hi _ (fun m' e' h' hlt hi'=>nu (I:=I) m' hlt hi') (fun _ _=>rfl) (fun _=>rfl)
theorem r6:∀ (l:List bA) (s:bA),(dM l s).length≤l.length+1
 |[],s=>Nat.le_refl _
 |x :: l,s=>by
  have:=r6 l s
  rw [dM]
  split
  ·rw [List.length_cons,List.length_cons];omega
  ·split
   ·omega
   ·simp
def eo(rs:List aJ):List bA:=rs.foldl (fun o r=>dM o r.name) []
theorem Gr{rs:List aJ}{i:Nat}{r:aJ}(hr:rs[i]?=some r):eo (rs.take (i+1))=dM (eo (rs.take i)) r.name:=by
 unfold eo;rw [List.take_add_one,hr];simp
theorem nX:∀ (rs:List aJ) (o:List bA),(rs.foldl (fun o r=>dM o r.name) o).length≤o.length+rs.length
 |[],o=>Nat.le_refl _
 |r :: rs,o=>by
  have h1:=nX rs (dM o r.name)
  have h2:=r6 o r.name
  rw [List.foldl_cons,List.length_cons];omega
theorem mY(rs:List aJ):(eo rs).length≤rs.length:=by
 have:=nX rs [];simpa [eo] using this
theorem lK:∀ (rs:List aJ) (o:List bA),nW o→nW (rs.foldl (fun o r=>dM o r.name) o)
 |[],o,h=>h
 |r :: rs,o,h=>lK rs _ (ru h r.name)
theorem mj(rs:List aJ):nW (eo rs):=lK rs [] List.Pairwise.nil
theorem nY{s:bA}:∀ (rs:List aJ) (o:List bA),s ∈ rs.foldl (fun o r=>dM o r.name) o↔s ∈ o∨s ∈ bg rs
 |[],o=>by simp [bg]
 |r :: rs,o=>by
  rw [List.foldl_cons,nY rs,nK]
  simp [bg,or_assoc]
theorem eD{s:bA}(rs:List aJ):s ∈ eo rs↔s ∈ bg rs:=by
 have:=nY (s:=s) rs [];simpa [eo] using this
theorem vF{l:List bA}(h:nW l):l.Nodup:=by
 unfold nW at h;unfold List.Nodup
 exact h.imp fun {a b} hab e=>by subst e;rw [kL] at hab;cases hab
theorem cO{rules:Sl aJ}(h60:rules.l.length≤60){h:af}{K:Out→af→Bool}(hK:∀ x:Sl bA,x.l=eo rules.l→K (.ret (aq encS 1 x)) h=true) :
  Sem Tryz.prog 34 [aq aM 3 rules] h K:=by
 have hbig:rules.l.length≤cy:=by unfold cy;omega
 have main:Sem Tryz.prog 34 [aq aM 3 rules] af.empty (fun o h'=>yes (∃ v,∃ x:Sl bA,o = .ret v∧x.l=eo rules.l∧Fz true h' v (aq encS 1 x))):=by
  refine F.td ?_
  rw [F.uv]
  refine aE 0 rules.l.length (Nat.zero_le _) (fun i e h'=>∃ a,Own encS 1 0 h' a (eo (rules.l.take i))∧e 0=aq aM 3 rules∧e 3=a∧e 4 = .int .i64 (i:Int)) ⟨.nils,.nil,rfl,rfl,rfl⟩ ?_ ?_
  ·rintro i e h' _ hi ⟨a,o,e0,e3,e4⟩ K' hn hx hr hp
   have hv:rules.l[i]?=some rules.l[i]:=List.getElem?_eq_getElem hi
   generalize rules.l[i]=r at hv
   have ld:∀ h,aj none (.iptr (rules.l.flatMap aM) (i*3)) h=some (.str r.name):=fun h=>eN eP hv (by omega:0<3)
   have hst:=Gr hv
   rw [F.cO.aP]
   simp only [e0,e3,e4,aQ,Nat.reduceAdd,Nat.reduceEqDiff,reduceIte,bf hi,aT rules hi,ld]
   refine an (dH o (Nat.zero_le _) (by have h1:=mY (rules.l.take i);have h2:=List.length_take_le i rules.l;omega) fun a1 h1 x1 o1=>?_)
   simp only [aQ,Nat.reduceAdd,Nat.reduceEqDiff,reduceIte,aK hi hbig]
   exact hn _ _ ⟨a1,by rw [hst];exact o1,e0,rfl,rfl⟩
  ·rintro e h' ⟨a,o,e0,e3,e4⟩ K' hx
   rw [F.cO.aP]
   simp only [e0,e4,aQ,Nat.reduceAdd,Nat.reduceEqDiff,reduceIte,aR]
   rw [hx,F.cO.aG]
   rw [List.take_of_length_le (Nat.le_refl _)] at o
   simp only [bE,Nat.reduceEqDiff,reduceIte,e3]
   obtain ⟨x,hx1,hx2⟩:=o.Ez (fun v y hy=>by
    simp only [encS,List.mem_cons,List.not_mem_nil,or_false] at hy
    subst hy;exact .scalar _ rfl)
   exact cz.2 ⟨a,x,rfl,hx1,hx2⟩
 refine main.frozen (by simp [AV.pureL,cj eC]) fun o h' ho=>?_
 obtain ⟨v,x,rfl,hx,hf⟩:=cz.1 ho
 exact ⟨v,_,rfl,hf,hK x hx⟩
theorem dy{x:Sl bA}{s:bA}(hx:x.l.length≤cy){h:af}{K:Out→af→Bool}(hyes:∀ i:Nat,x.l[i]?=some s→K (.ret (.int .i64 (i:Int))) h=true)(hno:s ∉ x.l→K (.ret (.int .i64 (-1))) h=true):Sem Tryz.prog 58 [aq encS 1 x,.str s] h K:=by
 refine F.vT ?_
 rw [F.yd]
 refine aE 0 x.l.length (Nat.zero_le _) (fun i e h'=>h'=h∧e 0=aq encS 1 x∧e 1 = .str s∧e 5 = .int .i64 (i:Int)∧s ∉ x.l.take i) ⟨rfl,rfl,rfl,rfl,by simp⟩ ?_ ?_
 ·rintro i e h' _ hi ⟨rfl,e0,e1,e5,ht⟩ K' hn hx' hr hp
  have hv:x.l[i]?=some x.l[i]:=List.getElem?_eq_getElem hi
  generalize x.l[i]=t at hv
  rw [F.dy.aP]
  simp only [e0,e1,e5,aQ,Nat.reduceAdd,Nat.reduceEqDiff,reduceIte,bf hi,aT x hi,gC hv,nJ]
  by_cases hq:t=s
  ·subst hq
   simp only [decide_true,aD]
   rw [hr,F.dy.bp]
   exact hyes i hv
  ·simp only [decide_eq_false hq,aC,aK hi hx,bindO_some]
   refine hn _ _ ⟨rfl,e0,e1,rfl,?_⟩
   rw [List.take_add_one,hv]
   simp only [Option.toList_some,List.mem_append,List.mem_singleton]
   exact fun h=>h.elim ht fun h=>hq h.symm
 ·rintro e h' ⟨rfl,e0,e1,e5,ht⟩ K' hx'
  rw [F.dy.aP]
  simp only [e0,e5,aQ,Nat.reduceAdd,Nat.reduceEqDiff,reduceIte,aR]
  rw [hx',F.dy.aG]
  rw [List.take_of_length_le (Nat.le_refl _)] at ht
  exact hno ht
end
end Go.AM